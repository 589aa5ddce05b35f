import Derived.Test.YtenjigdaaeiklaaM5
set_option linter.all false
namespace Go.Gv.R
open Go Go.Gv Go.Gv.D

theorem len_self {r : List Bool} (h : r = [] ∨ r.getLast? = some true) : Len (vbits r) r.length :=
  TrimB.Len ⟨⟨0, by simp⟩, h⟩

/-- the bits of a number, the lowest first -/
theorem low_bits {l : List Bool} {x : Int} {n : Nat} (hx : 0 ≤ x ∧ x < 2 ^ n) (hn : n ≤ 32) (hl : l.length ≤ 100000) :
    Tot (fun fuel => loopN (fun (s141 : ((List Bool) × Int × Int)) => (if (decide (s141.2.2 > 0)) then (Option.bind (app s141.1 ([(((s141.2.1).tmod 2) == 1)] : List Bool)) fun l172 => (some (.inl (l172, (IntKind.u64.wrap ((s141.2.1).tdiv 2)), (IntKind.i64.wrap (s141.2.2 - 1)))))) else (some (.inr (s141.1))))) fuel (l, x, (n : Int)))
      (fun r => r.length = l.length + n ∧ vbits r = vbits l + 2 ^ l.length * x) := by
  have hp32 : (2 : Int) ^ n ≤ 4294967296 := by
    have h4 : (2 : Int) ^ n ≤ 2 ^ 32 := vb_mono (b := 2) (by decide) hn
    simpa using h4
  refine Tot.loop (fun st => ∃ j : Nat, j ≤ n ∧ st.2.2 = ((n - j : Nat) : Int) ∧ st.1.length = l.length + j ∧ st.2.1 = x / 2 ^ j ∧ vbits st.1 = vbits l + 2 ^ l.length * (x % 2 ^ j)) (fun st => st.2.2.toNat)
    ⟨0, by omega, rfl, rfl, by simp, by simp [Int.emod_one]⟩ fun st ⟨j, hj, e, m1, m2, m3⟩ => ?_
  obtain ⟨o, y, z⟩ := st
  simp only at e m1 m2 m3
  subst e
  have hp : (0 : Int) < 2 ^ j := Int.pow_pos (by decide)
  have hyy : 0 ≤ y := by rw [m2]; exact Int.ediv_nonneg hx.1 (Int.le_of_lt hp)
  have hy2 : y < 4294967296 := by
    have := Int.ediv_le_self (2 ^ j) hx.1
    omega
  refine Tot.ite (fun hh => ?_) (fun hh => ?_)
  · have hh : 0 < ((n - j : Nat) : Int) := of_decide_eq_true hh
    refine Tot.bind0 (app_ok (by simp; omega)) (Tot.ret ?_)
    have hw : IntKind.i64.wrap (((n - j : Nat) : Int) - 1) = ((n - (j + 1) : Nat) : Int) := by rw [i64_small (by omega) (by omega)]; omega
    have e2 : IntKind.u64.wrap (y.tdiv 2) = y / 2 := by rw [Int.tdiv_eq_ediv_of_nonneg hyy, u64_small (by omega) (by omega)]
    simp only [hw, e2]
    refine ⟨⟨j + 1, by omega, rfl, by simp [m1]; omega, ?_, ?_⟩, by show (((n - (j + 1) : Nat) : Int)).toNat < (((n - j : Nat) : Int)).toNat; omega⟩
    · rw [m2, Int.pow_succ, Int.ediv_ediv_of_nonneg (Int.le_of_lt hp)]
    · rw [vbits_snoc, m3, b2_mod hyy, m1, Int.pow_add, m2]
      have e3 : x % 2 ^ (j + 1) = x % 2 ^ j + 2 ^ j * (x / 2 ^ j % 2) := by
        rw [Int.pow_succ]
        exact mod_twice hp
      rw [e3]
      grind
  · have hh : ¬ 0 < ((n - j : Nat) : Int) := of_decide_eq_false hh
    have : j = n := by omega
    subst this
    refine Tot.ret ⟨m1, ?_⟩
    show vbits o = _
    rw [m3, Int.emod_eq_of_lt hx.1 hx.2]

/-- one try: the bits of the limbs that are drawn -/
theorem try_tot {c s0 : Int} {size : Nat} (hs : size ≤ 4096) :
    Tot (fun fuel => loopN (fun (s84 : ((List Bool) × Int × ((Int × Int)))) => (if (decide (s84.2.1 > 0)) then (Option.bind (ref4_Random_Draw fuel (s84.2.2.1, s84.2.2.2)) fun r103 => (Option.bind (if (decide (s84.2.1 > 32)) then (some (32)) else (some (s84.2.1))) fun (j109 : Int) => (Option.bind (nn (IntKind.u64.wrap ((IntKind.i64.wrap (64 - j109))))) fun _ => (Option.bind (some (shrI .u64 r103.1 (IntKind.u64.wrap ((IntKind.i64.wrap (64 - j109)))))) fun n137 => (Option.bind (loopN (fun (s141 : ((List Bool) × Int × Int)) => (if (decide (s141.2.2 > 0)) then (Option.bind (app s141.1 ([(((s141.2.1).tmod 2) == 1)] : List Bool)) fun l172 => (some (.inl (l172, (IntKind.u64.wrap ((s141.2.1).tdiv 2)), (IntKind.i64.wrap (s141.2.2 - 1)))))) else (some (.inr (s141.1))))) fuel (s84.1, n137, j109)) fun (j139 : (List Bool)) => (some (.inl (j139, (IntKind.i64.wrap (s84.2.1 - 32)), (r103.2.1, r103.2.2))))))))) else (some (.inr ((s84.1, (s84.2.2.1, s84.2.2.2))))))) fuel (([] : List Bool), ((size : Nat) : Int), (s0, c)))
      (fun r => r.1.length = size ∧ vbits r.1 = val (lm c s0 size) ∧ r.2 = (it c s0 ((size + 31) / 32), c)) := by
  refine Tot.loop (fun st => ∃ k : Nat, st.2.1 = (size : Int) - 32 * k ∧ (k = 0 ∨ -32 < st.2.1) ∧ st.2.2 = (it c s0 k, c) ∧ st.1.length = min size (32 * k) ∧ vbits st.1 + 2 ^ (32 * k) * val (lm c (it c s0 k) st.2.1.toNat) = val (lm c s0 size)) (fun st => st.2.1.toNat)
    ⟨0, by show (size : Int) = _; omega, .inl rfl, rfl, by show 0 = _; omega, ?_⟩ fun st ⟨k, g2, g3, g4, g5, g6⟩ => ?_
  · show vbits [] + 2 ^ (32 * 0) * val (lm c (it c s0 0) ((size : Nat) : Int).toNat) = _
    rw [show vbits [] = 0 from rfl]
    simp [it]
  obtain ⟨out, m, t⟩ := st
  simp only at g2 g3 g4 g5 g6
  subst g4
  refine Tot.ite (fun h => ?_) (fun h => ?_)
  · have h : m > 0 := of_decide_eq_true h
    have hx := U_mix (stp c (it c s0 k))
    unfold U at hx
    refine Tot.bind0 (draw_eq 0 (it c s0 k) c) ?_
    refine Tot.bindq (P := fun j => j = ((min m.toNat 32 : Nat) : Int)) ?_ fun j hj => ?_
    · refine Tot.ite (fun hh => ?_) (fun hh => ?_)
      · have hh : m > 32 := of_decide_eq_true hh
        exact Tot.ret (by omega)
      · have hh : ¬ m > 32 := of_decide_eq_false hh
        exact Tot.ret (show m = _ by omega)
    have hj0 : 0 < j := by omega
    have hj1 : j ≤ 32 := by omega
    have ew : IntKind.u64.wrap (IntKind.i64.wrap (64 - j)) = 64 - j := by rw [i64_small (by omega) (by omega), u64_small (by omega) (by omega)]
    simp only [ew]
    refine Tot.bind0 (a := ()) (by unfold nn; rw [if_pos (by omega)]) (Tot.some_bind ?_)
    have hlm := lm_pos c (it c s0 k) (show m.toNat ≠ 0 by omega)
    have hdig : shrI .u64 (mixI (stp c (it c s0 k))) (64 - j) = (if m.toNat < 32 then mixI (stp c (it c s0 k)) / 4294967296 / 2 ^ (32 - m.toNat) else mixI (stp c (it c s0 k)) / 4294967296) := by
      unfold shrI
      rw [show min (64 - j).toNat IntKind.u64.bits = 32 + (32 - min m.toNat 32) by show min (64 - j).toNat 64 = _; omega]
      rw [Int.fdiv_eq_ediv_of_nonneg _ (Int.le_of_lt (Int.pow_pos (by decide))), Int.pow_add, ← Int.ediv_ediv_of_nonneg (by decide)]
      rw [show (2 : Int) ^ 32 = 4294967296 by decide]
      split
      · rw [show min m.toNat 32 = m.toNat by omega]
      · rw [show 32 - min m.toNat 32 = 0 by omega]; simp
    rw [← hdig] at hlm
    have hd : 0 ≤ shrI .u64 (mixI (stp c (it c s0 k))) (64 - j) ∧ shrI .u64 (mixI (stp c (it c s0 k))) (64 - j) < 2 ^ (min m.toNat 32) := by
      unfold shrI
      rw [show min (64 - j).toNat IntKind.u64.bits = 64 - min m.toNat 32 by show min (64 - j).toNat 64 = _; omega]
      have hp : (0 : Int) < 2 ^ (64 - min m.toNat 32) := Int.pow_pos (by decide)
      rw [Int.fdiv_eq_ediv_of_nonneg _ (Int.le_of_lt hp)]
      refine ⟨Int.ediv_nonneg hx.1 (Int.le_of_lt hp), Int.ediv_lt_of_lt_mul hp ?_⟩
      rw [← Int.pow_add, show min m.toNat 32 + (64 - min m.toNat 32) = 64 by omega]
      simpa using hx.2
    rw [hj] at hd ⊢
    rw [hj] at hlm
    have hm32 : k = 0 ∨ 32 * k ≤ size := by omega
    have hlen : out.length = 32 * k := by omega
    refine Tot.bindq (low_bits hd (by omega) (by omega)) fun r ⟨r1, r2⟩ => Tot.ret ?_
    have hw : IntKind.i64.wrap (m - 32) = m - 32 := i64_small (by omega) (by omega)
    show (∃ k' : Nat, IntKind.i64.wrap (m - 32) = (size : Int) - 32 * k' ∧ (k' = 0 ∨ -32 < IntKind.i64.wrap (m - 32)) ∧ (stp c (it c s0 k), c) = (it c s0 k', c) ∧ r.length = min size (32 * k') ∧ vbits r + 2 ^ (32 * k') * val (lm c (it c s0 k') (IntKind.i64.wrap (m - 32)).toNat) = val (lm c s0 size)) ∧ (IntKind.i64.wrap (m - 32)).toNat < m.toNat
    rw [hw]
    refine ⟨⟨k + 1, by omega, .inr (by omega), rfl, by omega, ?_⟩, by omega⟩
    rw [← g6, hlm, r2, hlen, show (m - 32).toNat = m.toNat - 32 by omega]
    simp only [val]
    rw [show 32 * (k + 1) = 32 * k + 32 by omega, Int.pow_add, show (2 : Int) ^ 32 = 4294967296 by decide, show it c s0 (k + 1) = stp c (it c s0 k) from rfl]
    grind
  · have h : ¬ m > 0 := of_decide_eq_false h
    have hz : m.toNat = 0 := by omega
    rw [hz, lm_zero] at g6
    simp only [val] at g6
    refine Tot.ret ⟨by show out.length = _; omega, by show vbits out = _; omega, ?_⟩
    rw [show (size + 31) / 32 = k by omega]

/-- what the reference draws below a number, where it is among the first tries -/
def BelowF (c s v : Int) (r : (Bool × List Int) × Bool × (Int × Int)) : Prop :=
  r.2.1 = true → ∃ (size m : Nat), Len (v - 1) size ∧ r.1.1 = false ∧ Ok3 r.1.2 ∧ w r.1.2 = val (try_ c s size ((size + 31) / 32) m) ∧ w r.1.2 < v ∧ r.2.2 = (it c s ((m + 1) * ((size + 31) / 32)), c) ∧ ∀ m', m' < m → v ≤ val (try_ c s size ((size + 31) / 32) m')
theorem BelowF.drawn {c s v : Int} {r : (Bool × List Int) × Bool × (Int × Int)} (h : BelowF c s v r) (hr : r.2.1 = true) (hv : 1 ≤ v) {x : List Int} {s' : Int} (hd : Drawn c s v x s') :
    r.1.1 = false ∧ Ok3 r.1.2 ∧ w r.1.2 = val x ∧ r.2.2 = (s', c) := by
  obtain ⟨size, m, h1, h2, h3, h4, h5, h6, h7⟩ := h hr
  obtain ⟨size', m', d1, d2, d3, d4, d5, d6⟩ := hd
  have e := Len.unique h1 d1 (by omega)
  have e : size = size' := by omega
  subst e
  have hval := d4.val
  have em : m = m' := by
    rcases Nat.lt_trichotomy m m' with h | h | h
    · have := d6 m h; omega
    · exact h
    · have := h7 m' h; omega
  subst em
  exact ⟨h2, h3, by omega, by rw [h6, d3]⟩

theorem RBelow_tot {c s : Int} {n : Bool × List Int} (hn : Ok3 n.2) (hl : n.2.length ≤ 256) (h0 : n.1 = false) (hv : 1 ≤ w n.2) : Tot (fun fuel => ref4_Random_Below fuel (s, c) n) (BelowF c s (w n.2)) := by
  obtain ⟨sg, l⟩ := n
  simp only at hn hl h0 hv
  subst h0
  unfold ref4_Random_Below
  refine Tot.bindq (Number_tot (n := -1) (by decide) (by decide)) fun o ⟨o1, o2, o3⟩ => ?_
  have ov : iv3 (o.1, o.2) = -1 := by
    unfold iv3
    rw [o1, o3]
    rfl
  have ol : o.2.length ≤ 20000 := by
    have := (Ok3.lenBig o2).2 (by rw [o3]; decide)
    omega
  refine Tot.bindq (IPlus_tot (a := (false, l)) (b := (o.1, o.2)) hn o2 (by show l.length ≤ 20000; omega) ol) fun d ⟨d1, d2⟩ => ?_
  rw [ov] at d2
  have d2 : iv3 d = w l - 1 := by rw [d2]; unfold iv3; simp; omega
  have dv : w d.2 = w l - 1 := by
    have := w_nonneg d1
    unfold iv3 at d2
    split at d2 <;> omega
  refine Tot.bindq (Ones_tot d1) fun b ⟨b1, b2, b3⟩ => ?_
  have hL := len_self b2
  rw [b1, dv] at hL
  have dl : d.2.length ≤ 256 := (Ok3.lenBig d1).2 (by have := (Ok3.lenBig hn).1 hl; omega)
  have hsz : b.length ≤ 4096 := by omega
  generalize b.length = size at hL hsz
  clear b1 b2 b3 dl dv d2 d1
  refine Tot.bindq (P := fun x => match x with | .inl _ => True | .inr r => BelowF c s (w l) r) ?_ fun x hx => ?_
  · refine Tot.loop (fun st => ∃ i : Nat, i ≤ 1000 ∧ st.1 = (i : Int) ∧ st.2.1 = (it c s (i * ((size + 31) / 32)), c) ∧ ∀ m', m' < i → w l ≤ val (try_ c s size ((size + 31) / 32) m')) (fun st => 1000 - st.1.toNat)
      ⟨0, by omega, rfl, by simp [it], fun m' h => by omega⟩ fun st ⟨i, hi, e, g1, g2⟩ => ?_
    obtain ⟨k, t, q⟩ := st
    simp only at e g1
    subst e g1
    refine Tot.ite (fun h => ?_) (fun h => Tot.ret trivial)
    have h : (i : Int) < 1000 := of_decide_eq_true h
    refine Tot.bindq (try_tot hsz) fun r ⟨r1, r2, r3⟩ => ?_
    refine Tot.bindq (Binary_tot (by omega)) fun x ⟨x1, x2⟩ => ?_
    refine Tot.bindq (Order_tot (a := (false, x)) (b := (false, l)) x1 hn) fun u ⟨u1, u2⟩ => ?_
    have ex : iv3 (false, x) = w x := rfl
    have el : iv3 (false, l) = w l := rfl
    rw [ex, el] at u1
    have ev : w x = val (try_ c s size ((size + 31) / 32) i) := by rw [x2, r2]; rfl
    have es : it c (it c s (i * ((size + 31) / 32))) ((size + 31) / 32) = it c s ((i + 1) * ((size + 31) / 32)) := by
      rw [it_add, Nat.add_mul, Nat.one_mul]
    refine Tot.ite (fun hh => ?_) (fun hh => ?_)
    · have hh : u < 0 := of_decide_eq_true hh
      refine Tot.ret fun _ => ⟨size, i, hL, rfl, x1, ev, u1.1 hh, ?_, g2⟩
      show (r.2.1, r.2.2) = _
      rw [r3, es]
    · have hh : ¬ u < 0 := of_decide_eq_false hh
      refine Tot.ret ?_
      have hw : IntKind.i64.wrap ((i : Int) + 1) = ((i + 1 : Nat) : Int) := by rw [i64_small (by omega) (by omega)]; omega
      refine ⟨⟨i + 1, by omega, hw, ?_, fun m' hm' => ?_⟩, ?_⟩
      · show (r.2.1, r.2.2) = _
        rw [r3, es]
      · rcases Nat.lt_or_eq_of_le (Nat.lt_succ_iff.1 hm') with h1 | h1
        · exact g2 m' h1
        · subst h1
          rw [← ev]
          have : ¬ w x < w l := fun c => hh (u1.2 c)
          omega
      · show 1000 - (IntKind.i64.wrap ((i : Int) + 1)).toNat < 1000 - ((i : Nat) : Int).toNat
        rw [hw]
        omega
  · match x, hx with
    | .inl y, _ => exact Tot.contl (Tot.ret fun h => by cases h)
    | .inr r, hr => exact Tot.contr hr

theorem okI_pos {n : Bool × List Int} (hd : Dg n.2) (hk : okI n = true) (h1 : n.1 = false) (h2 : n.2 ≠ []) : 1 ≤ val n.2 := by
  have hl := ((OkI_iff hd).1 hk).1
  have := val_lt_big hl
  have : val n.2 ≠ 0 := fun e => h2 (val_zero hl.1 hl.2.1 e)
  omega

theorem RandomIntegers_even (s c : Int) (n lo hi : Bool × List Int) (h : (c.tmod 2 == 0) = true) : Tot (fun fuel => law4_RandomIntegers fuel (s, c) n lo hi) (· = true) := by
  unfold law4_RandomIntegers
  have e1 := fun fuel => Below_even fuel s c n h
  have e2 := fun fuel => Between_even fuel s c lo hi h
  simp only [e1, e2]
  refine Tot.some_bind (Tot.some_bind ?_)
  refine Tot.bindq draws_ok fun r hr => ?_
  subst hr
  refine Tot.if_ rfl ?_
  refine Tot.bindq (P := fun f => f = (6, -1)) (Tot.it h (Tot.ret rfl)) fun f hf => ?_
  subst hf
  refine Tot.some_bind (Tot.some_bind ?_)
  exact Tot.ret rfl

theorem RandomIntegers_law (g : Int × Int) (n lo hi : Bool × List Int) (hg1 : U g.1) (hg2 : U g.2) (hn : Dg n.2) (hd : Dg lo.2) (hd' : Dg hi.2) : Tot (fun fuel => law4_RandomIntegers fuel g n lo hi) (· = true) := by
  obtain ⟨s, c⟩ := g
  have hs : U s := hg1
  have hcc : U c := hg2
  cases h : (c.tmod 2 == 0) with
  | true => exact RandomIntegers_even s c n lo hi h
  | false =>
  unfold law4_RandomIntegers
  refine Tot.bindq (Below_tot h hcc hs hn) fun p hp => ?_
  refine Tot.bindq (Between_tot h hcc hs hd hd') fun q hq => ?_
  refine Tot.bindq draws_ok fun r hr => ?_
  subst hr
  refine Tot.if_ rfl ?_
  refine Tot.bindq (P := fun f => f = (0, 0)) (Tot.if_ h (Tot.ret rfl)) fun f hf => ?_
  subst hf
  -- the fault of Below
  refine Tot.bindq (P := fun f => f = if okI n = false then (6, -2) else if n.1 = true ∨ n.2 = [] then (4, -2) else (0, 0)) ?_ fun f hf => ?_
  · refine Tot.if_ rfl (Tot.bind0 (IntOk_eq 0 (n.1, n.2)) ?_)
    show Tot (fun fuel => if (!okI n) = true then _ else _) _
    refine Tot.ite (fun hk => ?_) (fun hk => ?_)
    · have hk : okI n = false := by simpa using hk
      exact Tot.ret (by rw [if_pos hk])
    have hk : okI n = true := by simpa using hk
    refine Tot.bindq (P := fun j => j = (n.1 || decide (n.2.length = 0))) ?_ fun j hj => ?_
    · refine Tot.ite (fun hx => Tot.ret ?_) (fun hx => Tot.bind0 (NoInt_eq 0 (n.1, n.2)) (Tot.ret ?_))
      · have hx : n.1 = true := hx
        rw [hx]; rfl
      · have hx : n.1 = false := hx
        rw [hx]; rfl
    subst hj
    refine Tot.ite (fun hh => ?_) (fun hh => ?_)
    · have hh : n.1 = true ∨ n.2 = [] := by simpa using hh
      refine Tot.ret ?_
      rw [if_neg (by simp [hk]), if_pos hh]
    · have hh : ¬ (n.1 = true ∨ n.2 = []) := by simpa using hh
      refine Tot.ret ?_
      rw [if_neg (by simp [hk]), if_neg hh]
  refine Tot.bindq (P := fun x => x = .inl ()) ?_ fun x hx => ?_
  · unfold BelowR at hp
    split at hf
    · rename_i hk
      rw [if_pos hk] at hp
      subst hp; subst hf
      refine Tot.it rfl (Tot.bindq (P := fun j => j = false) ?_ fun j hj => by subst hj; exact Tot.ret rfl)
      exact Tot.if_ rfl (Tot.some_bind (Tot.if_ rfl (Tot.ret rfl)))
    rename_i hk
    rw [if_neg hk] at hp
    split at hf
    · rename_i hk'
      rw [if_pos hk'] at hp
      subst hp; subst hf
      refine Tot.it rfl (Tot.bindq (P := fun j => j = false) ?_ fun j hj => by subst hj; exact Tot.ret rfl)
      exact Tot.if_ rfl (Tot.some_bind (Tot.if_ rfl (Tot.ret rfl)))
    rename_i hk'
    rw [if_neg hk'] at hp
    subst hf
    have hk : okI n = true := by simpa using hk
    have h1 : n.1 = false := by
      cases hx : n.1 with
      | false => rfl
      | true => exact absurd (.inl hx) hk'
    have h2 : n.2 ≠ [] := fun e => hk' (.inr e)
    have oi := (OkI_iff hn).1 hk
    have hv := okI_pos hn hk h1 h2
    refine Tot.if_ rfl (Tot.bindq (IntOf_tot (a := (n.1, n.2)) oi) fun a ⟨a1, a2, a3, a4⟩ => ?_)
    refine Tot.bindq (RBelow_tot (c := c) (s := s) (n := (a.1, a.2)) a2 a4 (by rw [a1]; exact h1) (by show 1 ≤ w a.2; rw [a3]; exact hv)) fun b hb => ?_
    have hb : BelowF c s (val n.2) b := by rw [← a3]; exact hb
    refine Tot.bindq (P := fun j => j = false) ?_ fun j hj => by subst hj; exact Tot.ret rfl
    refine Tot.ite (fun hh => ?_) (fun hh => Tot.ret rfl)
    obtain ⟨p1, p2, p3, p4⟩ := hp
    obtain ⟨b1, b2, b3, b4⟩ := hb.drawn hh hv p4
    obtain ⟨k1, k2, k3⟩ := p4.ok
    refine Tot.if_ (by rw [p3]; rfl) ?_
    have ok1 : OkI (p.1.1, p.1.2) := ⟨k1, fun _ => p1⟩
    refine Tot.bindq (SameInt_tot (a := (p.1.1, p.1.2)) (b := (b.1.1, b.1.2)) ok1 b2 (by unfold ival iv3; rw [p1, b1]; exact b3.symm)) fun u hu => ?_
    subst hu
    refine Tot.if_ rfl (Tot.ret ?_)
    rw [p2, b4]
    simp
  subst hx
  refine Tot.contl ?_
  clear hf hp f p
  -- the fault of Between
  refine Tot.bindq (P := fun f => f = if okI lo = false then (6, -2) else if okI hi = false then (6, -3) else if ival hi < ival lo then (4, -3) else (0, 0)) ?_ fun f hf => ?_
  · refine Tot.if_ rfl (Tot.bind0 (IntOk_eq 0 (lo.1, lo.2)) ?_)
    show Tot (fun fuel => if (!okI lo) = true then _ else _) _
    refine Tot.ite (fun hk => ?_) (fun hk => ?_)
    · have hk : okI lo = false := by simpa using hk
      exact Tot.ret (by rw [if_pos hk])
    have hk : okI lo = true := by simpa using hk
    refine Tot.bind0 (IntOk_eq 0 (hi.1, hi.2)) ?_
    show Tot (fun fuel => if (!okI hi) = true then _ else _) _
    refine Tot.ite (fun hk' => ?_) (fun hk' => ?_)
    · have hk' : okI hi = false := by simpa using hk'
      exact Tot.ret (by rw [if_neg (by simp [hk]), if_pos hk'])
    have hk' : okI hi = true := by simpa using hk'
    refine Tot.bindq (IntOf_tot (a := (hi.1, hi.2)) ((OkI_iff hd').1 hk')) fun a ⟨a1, a2, a3, a4⟩ => ?_
    refine Tot.bindq (IntOf_tot (a := (lo.1, lo.2)) ((OkI_iff hd).1 hk)) fun b ⟨b1, b2, b3, b4⟩ => ?_
    have ea : iv3 (a.1, a.2) = ival hi := iv3_of a1 a3
    have eb : iv3 (b.1, b.2) = ival lo := iv3_of b1 b3
    refine Tot.bindq (Order_tot (a := (a.1, a.2)) (b := (b.1, b.2)) a2 b2) fun u ⟨u1, u2⟩ => ?_
    rw [ea, eb] at u1
    refine Tot.ite (fun hh => ?_) (fun hh => ?_)
    · have hh : u < 0 := of_decide_eq_true hh
      exact Tot.ret (by rw [if_neg (by simp [hk]), if_neg (by simp [hk']), if_pos (u1.1 hh)])
    · have hh : ¬ u < 0 := of_decide_eq_false hh
      exact Tot.ret (by rw [if_neg (by simp [hk]), if_neg (by simp [hk']), if_neg (fun e => hh (u1.2 e))])
  unfold BetweenR at hq
  by_cases hk : okI lo = false
  · rw [if_pos hk] at hf hq
    subst hf; subst hq
    exact Tot.some_bind (Tot.it rfl (Tot.bindq (P := fun j => j = true) (Tot.it rfl (Tot.some_bind (Tot.it rfl (Tot.ret rfl)))) fun j hj => by subst hj; exact Tot.ret rfl))
  rw [if_neg hk] at hf hq
  have hk : okI lo = true := by simpa using hk
  by_cases hk' : okI hi = false
  · rw [if_pos hk'] at hf hq
    subst hf; subst hq
    exact Tot.some_bind (Tot.it rfl (Tot.bindq (P := fun j => j = true) (Tot.it rfl (Tot.some_bind (Tot.it rfl (Tot.ret rfl)))) fun j hj => by subst hj; exact Tot.ret rfl))
  rw [if_neg hk'] at hf hq
  have hk' : okI hi = true := by simpa using hk'
  by_cases hlt : ival hi < ival lo
  · rw [if_pos hlt] at hf hq
    subst hf; subst hq
    exact Tot.some_bind (Tot.it rfl (Tot.bindq (P := fun j => j = true) (Tot.it rfl (Tot.some_bind (Tot.it rfl (Tot.ret rfl)))) fun j hj => by subst hj; exact Tot.ret rfl))
  rw [if_neg hlt] at hf hq
  subst hf
  have ohi := (OkI_iff hd').1 hk'
  have olo := (OkI_iff hd).1 hk
  refine Tot.bindq (P := fun z => if Big ≤ ival hi - ival lo + 1 then z.1 = (14, -3) else z.1 = (0, 0) ∧ Ok3 z.2.2 ∧ z.2.2.length ≤ 256 ∧ z.2.1 = false ∧ w z.2.2 = ival hi - ival lo + 1) ?_ fun z hz => ?_
  · refine Tot.it rfl ?_
    refine Tot.bindq (IntOf_tot (a := (hi.1, hi.2)) ohi) fun a ⟨a1, a2, a3, a4⟩ => ?_
    refine Tot.bindq (IntOf_tot (a := (lo.1, lo.2)) olo) fun b ⟨b1, b2, b3, b4⟩ => ?_
    have ea : iv3 (a.1, a.2) = ival hi := iv3_of a1 a3
    have eb : iv3 (b.1, b.2) = ival lo := iv3_of b1 b3
    refine Tot.bindq (IMinus_tot (a := (b.1, b.2)) b2) fun m ⟨m1, m2⟩ => ?_
    have m1 : m.2 = b.2 := m1
    have m2 : iv3 (m.1, m.2) = - ival lo := by rw [← eb]; exact m2
    refine Tot.bindq (IPlus_tot (a := (a.1, a.2)) (b := (m.1, m.2)) a2 (by show Ok3 m.2; rw [m1]; exact b2) (by show a.2.length ≤ 20000; omega) (by show m.2.length ≤ 20000; rw [m1]; omega)) fun d ⟨d1, d2⟩ => ?_
    rw [ea, m2] at d2
    have k1 := ival_bound ohi
    have k2 := ival_bound olo
    have hBig : 0 < Big := by decide
    have dv : w d.2 = ival hi - ival lo := by
      have := w_nonneg d1
      unfold iv3 at d2
      split at d2 <;> omega
    have dl : d.2.length ≤ 20000 := by
      rcases Nat.lt_or_ge 257 d.2.length with hc | hc
      · have hbig := vb_big h16 d1.1 d1.2.1 (fun e => by rw [e] at hc; simp at hc)
        have hmono := vb_mono (b := 65536) (by decide) (show 257 ≤ d.2.length - 1 by omega)
        have h257 : (65536 : Int) ^ 257 = Big * 65536 := by rw [show (257 : Nat) = 256 + 1 by rfl, Int.pow_succ]; congr 1
        have : vb 65536 d.2 = w d.2 := rfl
        omega
      · omega
    refine Tot.bindq (Number_tot (n := 1) (by decide) (by decide)) fun o ⟨o1, o2, o3⟩ => ?_
    have ov : iv3 (o.1, o.2) = 1 := by
      unfold iv3
      rw [o1, o3]
      rfl
    have ol : o.2.length ≤ 20000 := by
      have := (Ok3.lenBig o2).2 (by rw [o3]; decide)
      omega
    refine Tot.bindq (IPlus_tot (a := (d.1, d.2)) (b := (o.1, o.2)) d1 o2 dl ol) fun t ⟨t1, t2⟩ => ?_
    rw [ov, show iv3 (d.1, d.2) = ival hi - ival lo by have : iv3 d = ival hi + -ival lo := d2; show iv3 d = _; omega] at t2
    have tn : t.1 = false := by
      have := w_nonneg t1
      unfold iv3 at t2
      cases ht : t.1 with
      | false => rfl
      | true => rw [ht] at t2; simp only [if_true] at t2; omega
    have tv : w t.2 = ival hi - ival lo + 1 := by
      unfold iv3 at t2
      rw [tn] at t2
      exact t2
    have tb := t1.lenBig
    rw [tv] at tb
    have hfit : (decide (((t.2.length : Nat) : Int) ≤ IntKind.i64.wrap (2 * 128))) = decide (t.2.length ≤ 256) := by
      rw [show IntKind.i64.wrap (2 * 128) = 256 by rfl]
      exact decide_eq_decide.2 (by omega)
    refine Tot.bind0 (a := decide (t.2.length ≤ 256)) (by rw [hfit]) ?_
    refine Tot.ite (fun hh => ?_) (fun hh => ?_)
    · have hh : ¬ t.2.length ≤ 256 := by simpa using hh
      refine Tot.ret ?_
      rw [if_pos (by have := mt tb.2 hh; omega)]
    · have hh : t.2.length ≤ 256 := by simpa using hh
      refine Tot.ret ?_
      rw [if_neg (by have := tb.1 hh; omega)]
      exact ⟨rfl, t1, hh, tn, tv⟩
  by_cases hB : Big ≤ ival hi - ival lo + 1
  · rw [if_pos hB] at hz hq
    subst hq
    refine Tot.it (by rw [hz]; rfl) (Tot.bindq (P := fun j => j = true) (Tot.it (by rw [hz]; rfl) (Tot.some_bind (Tot.it rfl (Tot.ret rfl)))) fun j hj => by subst hj; exact Tot.ret rfl)
  rw [if_neg hB] at hz hq
  obtain ⟨z1, z2, z3, z4, z5⟩ := hz
  obtain ⟨x, q1, q2, q3, q4, q5⟩ := hq
  refine Tot.if_ (by rw [z1]; rfl) ?_
  refine Tot.bindq (RBelow_tot (c := c) (s := s) (n := (z.2.1, z.2.2)) z2 z3 z4 (by show 1 ≤ w z.2.2; rw [z5]; omega)) fun b hb => ?_
  have hb : BelowF c s (ival hi - ival lo + 1) b := by rw [← z5]; exact hb
  refine Tot.bindq (P := fun j => j = true) ?_ fun j hj => by subst hj; exact Tot.ret rfl
  refine Tot.ite (fun hh => Tot.ret rfl) (fun hh => ?_)
  have hh : b.2.1 = true := by simpa using hh
  obtain ⟨b1, b2, b3, b4⟩ := hb.drawn hh (by omega) q3
  obtain ⟨k1, k2, k3⟩ := q3.ok
  refine Tot.it (by rw [q2]; rfl) ?_
  refine Tot.bindq (IntOf_tot (a := (lo.1, lo.2)) olo) fun a ⟨a1, a2, a3, a4⟩ => ?_
  have ea : iv3 (a.1, a.2) = ival lo := iv3_of a1 a3
  have bl : b.1.2.length ≤ 20000 := by
    have := (Ok3.lenBig b2).2 (by rw [b3]; exact (val_lt_big k1).2)
    omega
  refine Tot.bindq (IPlus_tot (a := (b.1.1, b.1.2)) (b := (a.1, a.2)) b2 a2 bl (by show a.2.length ≤ 20000; omega)) fun t ⟨t1, t2⟩ => ?_
  rw [ea, show iv3 (b.1.1, b.1.2) = val x by unfold iv3; rw [b1]; exact b3] at t2
  refine Tot.bindq (SameInt_tot (a := (q.1.1, q.1.2)) (b := (t.1, t.2)) q4 t1 (by show ival q.1 = iv3 t; have t2 : iv3 t = val x + ival lo := t2; have q5 : ival q.1 = ival lo + val x := q5; rw [t2, q5, Int.add_comm])) fun u hu => ?_
  subst hu
  refine Tot.it rfl (Tot.some_bind (Tot.ret ?_))
  rw [q1, b4]
  simp

theorem RandomIntegers_said (g : Int × Int) (n lo hi : Bool × List Int) (h0 : inK .u64 g.1 ∧ inK .u64 g.2) (h1 : True ∧ (∀ x ∈ n.2, inK .u32 x) ∧ n.2.length ≤ maxLen) (h2 : True ∧ (∀ x ∈ lo.2, inK .u32 x) ∧ lo.2.length ≤ maxLen)
    (h3 : True ∧ (∀ x ∈ hi.2, inK .u32 x) ∧ hi.2.length ≤ maxLen) : Tot (fun fuel => law4_RandomIntegers fuel g n lo hi) (· = true) :=
  RandomIntegers_law g n lo hi (inK_u64 h0.1) (inK_u64 h0.2) (fun x hx => inK_u32 (h1.2.1 x hx)) (fun x hx => inK_u32 (h2.2.1 x hx)) (fun x hx => inK_u32 (h3.2.1 x hx))
end Go.Gv.R
