import Derived.Test.YtkmcegicngjhbaaGreatDoorS3
import Derived.Test.YtkmcegicngjhbaaGreatDoorM2
import Derived.Test.YtkmcegicngjhbaaGreatDoorM6
set_option linter.all false
namespace Go.Gv.R
open Go Go.Gv Go.Gv.D Go.Lib Go.Gv.RI

/-! slices: where they begin, and how many -/
abbrev SlT := (Bool × List Int) × (Bool × List Int) × (Bool × List Int) × Bool × Bool × Bool
def cntI (a b s : Int) : Nat := if 0 < s then ((b - a + s - 1) / s).toNat else ((a - b - s - 1) / (-s)).toNat
theorem cnt_pos {a b s : Int} (hs : 0 < s) (k : Nat) : a + k * s < b ↔ k < cntI a b s := by
  unfold cntI
  rw [if_pos hs]
  have h := Int.le_ediv_iff_mul_le (a := (k : Int) + 1) (b := b - a + s - 1) hs
  rw [Int.add_mul, Int.one_mul] at h
  generalize (k : Int) * s = z at *
  generalize (b - a + s - 1) / s = q at *
  constructor
  · intro g
    have := h.2 (by omega); omega
  · intro g
    have := h.1 (by omega); omega
theorem cnt_neg {a b s : Int} (hs : s < 0) (k : Nat) : b < a + k * s ↔ k < cntI a b s := by
  unfold cntI
  rw [if_neg (by omega)]
  have h := Int.le_ediv_iff_mul_le (c := -s) (a := (k : Int) + 1) (b := a - b - s - 1) (by omega)
  rw [Int.add_mul, Int.one_mul, Int.mul_neg] at h
  generalize (k : Int) * s = z at *
  generalize (a - b - s - 1) / (-s) = q at *
  constructor
  · intro g
    have := h.2 (by omega); omega
  · intro g
    have := h.1 (by omega); omega
/-- what the parts say: (start, step, number) -/
def wholeI (p : SlT) (n : Int) : Int × Int × Int × Int × Int :=
  let st := if p.2.2.2.2.2 = true then clampI (ival p.2.2.1) (-10000) 10000 else 1
  let lo := if st < 0 then -1 else 0
  let hi := if st < 0 then n - 1 else n
  let e := fun (x : Int) => clampI (if x < 0 then x + n else x) lo hi
  let a := if p.2.2.2.1 = true then e (ival p.1) else if st < 0 then hi else lo
  let b := if p.2.2.2.2.1 = true then e (ival p.2.1) else if st < 0 then lo else hi
  (st, lo, hi, a, b)
def partOk (a : Bool × List Int) (g : Bool) : Bool := okI a && (g || decide (a.2 = []))
def sliceF (p : SlT) : Int × Int :=
  if partOk p.1 p.2.2.2.1 && (partOk p.2.1 p.2.2.2.2.1 && partOk p.2.2.1 p.2.2.2.2.2) then (if p.2.2.2.2.2 = true ∧ p.2.2.1.2 = [] then (22, -1) else (0, 0)) else (6, -1)
theorem len_nil {α : Type} (l : List α) : (((l.length : Nat) : Int) == 0) = decide (l = []) := by
  cases l with
  | nil => rfl
  | cons x l => rw [decide_eq_false (by simp)]; exact beq_eq_false_iff_ne.2 (by simp only [List.length_cons]; omega)
theorem part_eq (fuel : Nat) (a : Bool × List Int) (g : Bool) : slicing_part fuel a g = some (partOk a g) := by
  unfold slicing_part partOk
  rw [valid_eq, IntOk_eq, len_nil]
  show Option.bind (Option.bind (some (okI a)) _) _ = _
  cases okI a <;> cases g <;> rfl
theorem Check_eq (fuel : Nat) (p : SlT) : slicing_Check fuel p = some (sliceF p) := by
  obtain ⟨a, b, c, x, y, z⟩ := p
  unfold slicing_Check sliceF slicing_at
  dsimp only
  rw [part_eq, part_eq, part_eq, len_nil]
  show Option.bind (Option.bind (some (partOk a x)) _) _ = _
  cases partOk a x <;> cases partOk b y <;> cases partOk c z <;> cases z <;> by_cases h : c.2 = [] <;> simp [h]
theorem NoInt_ok {a : Bool × List Int} (h : okI a = true) : (!a.1 && decide (a.2.length = 0)) = decide (a.2 = []) := by
  obtain ⟨b, l⟩ := a
  cases l with
  | nil => unfold okI at h; cases b <;> simp_all
  | cons x l => simp
theorem SliceFault_tot (p : SlT) : Tot (fun n => ref3_SliceFault n p) (· = sliceF p) := by
  obtain ⟨a, b, c, x, y, z⟩ := p
  unfold ref3_SliceFault
  dsimp only
  have each : ∀ (i : Nat) (q : Bool × List Int) (g : Bool), idx ([a, b, c] : List (Bool × List Int)) (i : Int) = some q → idx [x, y, z] (i : Int) = some g →
      Tot (fun fuel => (Option.bind (idx ([(a.1, a.2), (b.1, b.2), (c.1, c.2)] : List (Bool × (List Int))) (i : Int)) fun x69 => (Option.bind (ref3_IntOk fuel (x69.1, x69.2)) fun r75 => (if (!r75) then (some (true)) else (Option.bind (idx ([x, y, z] : List Bool) (i : Int)) fun x88 => (if (!x88) then (Option.bind (idx ([(a.1, a.2), (b.1, b.2), (c.1, c.2)] : List (Bool × (List Int))) (i : Int)) fun x92 => (Option.bind (ref3_NoInt fuel (x92.1, x92.2)) fun r99 => (some ((!r99))))) else (some (false)))))))) (· = !partOk q g) := by
    intro i q g h1 h2
    refine Tot.bind0 h1 (Tot.bind0 (a := okI q) (IntOk_eq 0 q) ?_)
    unfold partOk
    by_cases h : okI q = true
    · rw [h]
      refine Tot.if_ rfl (Tot.bind0 h2 ?_)
      cases g with
      | true => exact Tot.if_ rfl (Tot.ret rfl)
      | false =>
        refine Tot.it rfl (Tot.bind0 h1 (Tot.bind0 (a := decide (q.2 = [])) ?_ (Tot.ret (by simp))))
        exact (NoInt_eq (0 : Nat) q).trans (congrArg some (NoInt_ok h))
    · have h : okI q = false := by simpa using h
      rw [h]
      exact Tot.it rfl (Tot.ret rfl)
  refine Tot.bindq (P := fun j => j = if partOk a x && (partOk b y && partOk c z) then .inl (0, 0) else .inr (6, -1)) ?_ fun j hj => ?_
  · refine Tot.loop (fun st => (st = (0, (0, 0))) ∨ (st = (1, (0, 0)) ∧ partOk a x = true) ∨ (st = (2, (0, 0)) ∧ partOk a x = true ∧ partOk b y = true) ∨ (st = (3, (0, 0)) ∧ partOk a x = true ∧ partOk b y = true ∧ partOk c z = true)) (fun st => 3 - st.1.toNat) (.inl rfl) fun st hst => ?_
    unfold ref3_At
    rcases hst with e | ⟨e, h1⟩ | ⟨e, h1, h2⟩ | ⟨e, h1, h2, h3⟩ <;> subst e
    · refine Tot.it rfl (Tot.bindq (each 0 a x rfl rfl) fun j hj => ?_)
      subst hj
      refine Tot.ite (fun g => Tot.some_bind (Tot.ret ?_)) fun g => Tot.ret ⟨.inr (.inl ⟨rfl, by simpa using g⟩), by decide⟩
      have g : partOk a x = false := by simpa using g
      rw [g]; rfl
    · refine Tot.it rfl (Tot.bindq (each 1 b y rfl rfl) fun j hj => ?_)
      subst hj
      refine Tot.ite (fun g => Tot.some_bind (Tot.ret ?_)) fun g => Tot.ret ⟨.inr (.inr (.inl ⟨rfl, h1, by simpa using g⟩)), by decide⟩
      have g : partOk b y = false := by simpa using g
      rw [g, h1]; rfl
    · refine Tot.it rfl (Tot.bindq (each 2 c z rfl rfl) fun j hj => ?_)
      subst hj
      refine Tot.ite (fun g => Tot.some_bind (Tot.ret ?_)) fun g => Tot.ret ⟨.inr (.inr (.inr ⟨rfl, h1, h2, by simpa using g⟩)), by decide⟩
      have g : partOk c z = false := by simpa using g
      rw [g, h1, h2]; rfl
    · refine Tot.if_ rfl (Tot.ret ?_)
      rw [h1, h2, h3]; rfl
  unfold sliceF
  dsimp only
  by_cases h : (partOk a x && (partOk b y && partOk c z)) = true
  · rw [if_pos h] at hj ⊢
    subst hj
    refine Tot.contl ?_
    have hc : okI c = true := by
      rw [Bool.and_eq_true, Bool.and_eq_true] at h
      have := h.2.2
      unfold partOk at this
      rw [Bool.and_eq_true] at this
      exact this.1
    refine Tot.bindq (P := fun j => j = decide (z = true ∧ c.2 = [])) ?_ fun j hj => ?_
    · cases z with
      | true =>
        refine Tot.it rfl (Tot.bind0 (a := decide (c.2 = [])) ?_ (Tot.ret (by simp)))
        exact (NoInt_eq (0 : Nat) c).trans (congrArg some (NoInt_ok hc))
      | false => exact Tot.if_ rfl (Tot.ret (by simp))
    subst hj
    unfold ref3_At
    refine Tot.ite (fun g => Tot.some_bind (Tot.ret ?_)) fun g => Tot.ret ?_
    · rw [if_pos (of_decide_eq_true g)]
    · rw [if_neg (of_decide_eq_false g)]
  · rw [if_neg h] at hj ⊢
    subst hj
    exact Tot.contr rfl
end Go.Gv.R
namespace Go.Gv.R
open Go Go.Gv Go.Gv.D Go.Lib Go.Gv.RI

theorem bounded_tot {a : Bool × List Int} (ha : OkI a) {lo hi : Int} (h1 : -1000000 ≤ lo) (h2 : hi ≤ 1000000) (h : lo ≤ hi) : Tot (fun fuel => slicing_bounded fuel a lo hi) (fun r => r = clampI (ival a) lo hi) := by
  have hneg : a.1 = true → ival a ≤ 0 := fun e => by
    have := (val_bound ha.1.1).1
    unfold ival; rw [if_pos e]; omega
  have hpos : a.1 = false → 0 ≤ ival a := fun e => by
    have := (val_bound ha.1.1).1
    unfold ival; rw [if_neg (by rw [e]; simp)]; omega
  unfold slicing_bounded clampI
  refine Tot.bindq (SmallA_tot (a := a) ha) fun r hr => ?_
  by_cases g : -9223372036854775808 ≤ ival a ∧ ival a ≤ 9223372036854775807
  · rw [if_pos g] at hr
    subst hr
    refine Tot.bindq (P := fun j => j = false) (Tot.if_ rfl (Tot.ret rfl)) fun j hj => ?_
    subst hj
    refine Tot.if_ rfl (Tot.if_ rfl (Tot.some_bind (Tot.ret ?_)))
    dsimp only
    by_cases k1 : ival a < lo
    · rw [if_pos k1, if_neg (by omega), if_pos (by omega)]
    · rw [if_neg k1]
      by_cases k2 : hi < ival a
      · rw [if_pos k2]
        by_cases k3 : ival a ≤ lo
        · omega
        · rw [if_neg k3, if_pos (by omega)]
      · rw [if_neg k2]
        by_cases k3 : ival a ≤ lo
        · rw [if_pos k3]; omega
        · rw [if_neg k3]
          by_cases k4 : hi ≤ ival a
          · rw [if_pos k4]; omega
          · rw [if_neg k4]
  · rw [if_neg g] at hr
    subst hr
    refine Tot.bindq (P := fun j => j = a.1) (Tot.it rfl (Tot.ret rfl)) fun j hj => ?_
    subst hj
    refine Tot.ite (fun e => Tot.ret ?_) fun e => Tot.it rfl (Tot.ret ?_)
    · have := hneg e
      rw [if_pos (by omega)]
    · have := hpos e
      rw [if_neg (by omega), if_pos (by omega)]
theorem clamp_bounds {x lo hi : Int} (h : lo ≤ hi) : lo ≤ clampI x lo hi ∧ clampI x lo hi ≤ hi := by
  unfold clampI
  (repeat' split) <;> omega
theorem end_tot {a : Bool × List Int} (ha : OkI a) {n lo hi : Int} (hn : 0 ≤ n ∧ n ≤ 4000) (h : (lo = 0 ∧ hi = n) ∨ (lo = -1 ∧ hi = n - 1)) :
    Tot (fun fuel => slicing_end fuel a n lo hi) (fun r => r = clampI (if ival a < 0 then ival a + n else ival a) lo hi) := by
  unfold slicing_end
  rw [i64_small (x := 0 - n) (by omega) (by omega), i64_small (x := 0 - n - 1) (by omega) (by omega)]
  refine Tot.bindq (bounded_tot ha (by omega) (by omega) (by omega)) fun r hr => ?_
  have hb := clamp_bounds (x := ival a) (show 0 - n - 1 ≤ n by omega)
  rw [← hr] at hb
  refine Tot.bindq (P := fun j => j = if r < 0 then r + n else r) ?_ fun j hj => ?_
  · refine Tot.ite (fun g => Tot.ret ?_) fun g => Tot.ret ?_
    · rw [if_pos (of_decide_eq_true g), i64_small (by omega) (by omega)]
    · rw [if_neg (of_decide_eq_false g)]
  refine Tot.some_bind (Tot.ret ?_)
  unfold clampI at hr ⊢
  rw [hj, hr]
  generalize ival a = v
  (repeat' split) <;> omega
theorem endAt_tot {a : Bool × List Int} (ha : OkI a) {n lo hi : Int} (hn : 0 ≤ n ∧ n ≤ 1000000) (h : (lo = 0 ∧ hi = n) ∨ (lo = -1 ∧ hi = n - 1)) :
    Tot (fun fuel => ref3_endAt fuel a n lo hi) (fun r => r = clampI (if ival a < 0 then ival a + n else ival a) lo hi) := by
  obtain ⟨b, l⟩ := a
  have hz : b = true → ival (b, l) < 0 := fun e => by
    have h1 := val_bound ha.1.1
    have h2 : val l ≠ 0 := fun h => by
      have := ha.2 (val_zero ha.1.1 ha.1.2.1 h)
      have this : b = false := this
      rw [this] at e; cases e
    unfold ival; rw [if_pos e]
    have h1 : 0 ≤ val l := h1.1
    dsimp only; omega
  have hp : b = false → 0 ≤ ival (b, l) := fun e => by
    have h1 := (val_bound ha.1.1).1
    unfold ival; rw [if_neg (by rw [e]; simp)]; exact h1
  unfold ref3_endAt
  refine Tot.bindq (IntOf_tot ha) fun ⟨rb, rl⟩ ⟨e1, e2, e3, e4⟩ => ?_
  have e1 : rb = b := e1
  have e2 : Ok3 rl := e2
  have e5 : iv3 (rb, rl) = ival (b, l) := iv3_of (by exact e1) e3
  subst e1
  refine Tot.bindq (P := fun j => Ok3 j.2 ∧ iv3 j = if ival (rb, l) < 0 then ival (rb, l) + n else ival (rb, l)) ?_ fun ⟨jb, jl⟩ ⟨g1, g2⟩ => ?_
  · refine Tot.ite (fun g => ?_) fun g => Tot.ret ⟨e2, ?_⟩
    · refine Tot.bindq (Number_tot (n := n) (by omega) (by omega)) fun ⟨nb, nl⟩ ⟨f1, f2, f3⟩ => ?_
      have hw := w_nonneg f2
      have hnl : nl.length ≤ 20000 := by
        have : w nl < Big := by
          have e : w nl = (n.natAbs : Int) := f3
          have hB : (1000000 : Int) < Big := by decide
          omega
        have this : nl.length ≤ 256 := f2.lenBig.2 this
        omega
      have hv : iv3 (nb, nl) = n := by
        have f1 : nb = decide (n < 0) := f1
        have f3 : w nl = (n.natAbs : Int) := f3
        unfold iv3
        rw [f1, decide_eq_false (by omega), if_neg (by simp)]
        dsimp only
        omega
      refine Tot.bindq (IPlus_tot (a := (rb, rl)) (b := (nb, nl)) e2 f2 (by have : rl.length ≤ 256 := e4; dsimp only; omega) hnl) fun ⟨pb, pl⟩ ⟨k1, k2⟩ => Tot.ret ⟨k1, ?_⟩
      rw [if_pos (hz g)]
      show iv3 (pb, pl) = _
      rw [k2, e5, hv]
    · rw [if_neg (by have := hp g; omega)]; exact e5
  refine Tot.bindq (near_tot (a := (jb, jl)) g1 (by omega) (by omega) (by omega)) fun r hr => Tot.ret ?_
  rw [hr, g2]

theorem sliceF_ok {p : SlT} (d1 : Dg p.1.2) (d2 : Dg p.2.1.2) (d3 : Dg p.2.2.1.2) (h : (sliceF p).1 = 0) : OkI p.1 ∧ OkI p.2.1 ∧ OkI p.2.2.1 ∧ (p.2.2.2.2.2 = true → ival p.2.2.1 ≠ 0) ∧ sliceF p = (0, 0) := by
  unfold sliceF at h ⊢
  by_cases g : (partOk p.1 p.2.2.2.1 && (partOk p.2.1 p.2.2.2.2.1 && partOk p.2.2.1 p.2.2.2.2.2)) = true
  · rw [if_pos g] at h ⊢
    by_cases g2 : p.2.2.2.2.2 = true ∧ p.2.2.1.2 = []
    · rw [if_pos g2] at h; cases h
    · rw [if_neg g2]
      unfold partOk at g
      simp only [Bool.and_eq_true] at g
      have k3 := (OkI_iff d3).1 g.2.2.1
      refine ⟨(OkI_iff d1).1 g.1.1, (OkI_iff d2).1 g.2.1.1, k3, fun e hv => g2 ⟨e, ?_⟩, rfl⟩
      refine val_zero k3.1.1 k3.1.2.1 ?_
      unfold ival at hv
      split at hv <;> omega
  · rw [if_neg g] at h; cases h
theorem wholeI_facts {p : SlT} {n : Int} (hn : 0 ≤ n) (h : p.2.2.2.2.2 = true → ival p.2.2.1 ≠ 0) {st lo hi a b : Int} (e : wholeI p n = (st, lo, hi, a, b)) :
    st ≠ 0 ∧ -10000 ≤ st ∧ st ≤ 10000 ∧ ((st < 0 ∧ lo = -1 ∧ hi = n - 1) ∨ (0 < st ∧ lo = 0 ∧ hi = n)) ∧ lo ≤ a ∧ a ≤ hi ∧ lo ≤ b ∧ b ≤ hi := by
  unfold wholeI at e
  dsimp only at e
  simp only [Prod.mk.injEq] at e
  obtain ⟨e1, e2, e3, e4, e5⟩ := e
  have hst : st ≠ 0 ∧ -10000 ≤ st ∧ st ≤ 10000 := by
    rw [← e1]
    split
    · rename_i g
      have := h g
      unfold clampI
      (repeat' split) <;> omega
    · omega
  rw [e1] at e2 e3 e4 e5
  rw [e2, e3] at e4 e5
  have hlh : (st < 0 ∧ lo = -1 ∧ hi = n - 1) ∨ (0 < st ∧ lo = 0 ∧ hi = n) := by
    rcases Int.lt_or_gt_of_ne hst.1 with g | g
    · rw [if_pos g] at e2 e3; exact .inl ⟨g, e2.symm, e3.symm⟩
    · rw [if_neg (by omega)] at e2 e3; exact .inr ⟨g, e2.symm, e3.symm⟩
  have hle : lo ≤ hi := by omega
  refine ⟨hst.1, hst.2.1, hst.2.2, hlh, ?_⟩
  have ha : lo ≤ a ∧ a ≤ hi := by
    rw [← e4]
    split
    · exact clamp_bounds hle
    · split <;> omega
  have hb : lo ≤ b ∧ b ≤ hi := by
    rw [← e5]
    split
    · exact clamp_bounds hle
    · split <;> omega
  exact ⟨ha.1, ha.2, hb.1, hb.2⟩

theorem tdiv_pos {x s : Int} (hs : 0 < s) : (if 0 < x.tdiv s then x.tdiv s else 0) = ((x / s).toNat : Int) := by
  by_cases h : 0 ≤ x
  · rw [Int.tdiv_eq_ediv_of_nonneg h]
    have := Int.ediv_nonneg h (Int.le_of_lt hs)
    split <;> omega
  · have h1 : x.tdiv s ≤ 0 := by
      have : x.tdiv s = - ((-x).tdiv s) := by rw [Int.neg_tdiv, Int.neg_neg]
      rw [this, Int.tdiv_eq_ediv_of_nonneg (by omega)]
      have := Int.ediv_nonneg (a := -x) (b := s) (by omega) (by omega)
      omega
    have h2 : x / s < 0 := Int.ediv_neg_of_neg_of_pos (by omega) hs
    rw [if_neg (by omega)]
    omega
theorem tdiv_le {x s : Int} (hs : 0 < s) (h : -100000 ≤ x) (h' : x ≤ 100000) : -9223372036854775808 ≤ x.tdiv s ∧ x.tdiv s ≤ 9223372036854775807 := by
  have h1 : (x.tdiv s).natAbs ≤ x.natAbs := by rw [Int.natAbs_tdiv]; exact Nat.div_le_self _ _
  omega
/-- what Resolve gives -/
theorem Resolve_tot {p : SlT} (d1 : Dg p.1.2) (d2 : Dg p.2.1.2) (d3 : Dg p.2.2.1.2) {n : Int} (hn : 0 ≤ n ∧ n ≤ 4000) : Tot (fun fuel => slicing_Resolve fuel p n) (fun r => if (sliceF p).1 = 0 then r = ((wholeI p n).2.2.2.1, (wholeI p n).1, (cntI (wholeI p n).2.2.2.1 (wholeI p n).2.2.2.2 (wholeI p n).1 : Int), (0, 0)) else r = (0, 0, 0, sliceF p)) := by
  obtain ⟨st, lo, hi, a, b, e⟩ : ∃ st lo hi a b, wholeI p n = (st, lo, hi, a, b) := ⟨_, _, _, _, _, rfl⟩
  unfold slicing_Resolve
  refine Tot.bind0 (a := sliceF p) (Check_eq 0 p) ?_
  by_cases h : (sliceF p).1 = 0
  · obtain ⟨k1, k2, k3, k4, k5⟩ := sliceF_ok d1 d2 d3 h
    refine Tot.mono (Q := fun r => r = (a, st, (cntI a b st : Int), (0, 0))) ?_ (fun r hr => by rw [if_pos h, hr, e])
    rw [k5]
    obtain ⟨f1, f2, f3, f4, f5, f6, f7, f8⟩ := wholeI_facts hn.1 k4 e
    unfold wholeI at e
    dsimp only at e
    simp only [Prod.mk.injEq] at e
    obtain ⟨e1, e2, e3, e4, e5⟩ := e
    rw [e1] at e2 e3 e4 e5
    rw [e2, e3] at e4 e5
    refine Tot.if_ rfl (Tot.if_ (by rw [decide_eq_false (by omega), decide_eq_false (by omega)]; rfl) ?_)
    refine Tot.bindq (P := fun j => j = st) ?_ fun j hj => ?_
    · rw [← e1]
      refine Tot.ite (fun g => ?_) fun g => ?_
      · rw [if_pos g]
        exact Tot.bindq (bounded_tot (a := p.2.2.1) k3 (by omega) (by omega) (by omega)) fun r hr => Tot.ret hr
      · rw [if_neg (by rw [g]; simp)]; exact Tot.ret rfl
    replace hj := hj.symm; subst hj
    refine Tot.bindq (P := fun j => j = (lo, hi)) ?_ fun j hj => ?_
    · rw [← e2, ← e3]
      refine Tot.ite (fun g => Tot.ret ?_) fun g => Tot.ret ?_
      · have g := of_decide_eq_true g
        rw [if_pos g, if_pos g, i64_small (by omega) (by omega)]
      · have g := of_decide_eq_false g
        rw [if_neg g, if_neg g]
    replace hj := hj.symm; subst hj
    refine Tot.bindq (P := fun j => j = (if st < 0 then hi else lo, if st < 0 then lo else hi)) ?_ fun j hj => ?_
    · refine Tot.ite (fun g => Tot.ret ?_) fun g => Tot.ret ?_
      · have g := of_decide_eq_true g
        rw [if_pos g, if_pos g]
      · have g := of_decide_eq_false g
        rw [if_neg g, if_neg g]
    replace hj := hj.symm; subst hj
    have hlh : (lo = 0 ∧ hi = n) ∨ (lo = -1 ∧ hi = n - 1) := by omega
    refine Tot.bindq (P := fun j => j = a) ?_ fun j hj => ?_
    · rw [← e4]
      refine Tot.ite (fun g => ?_) fun g => ?_
      · rw [if_pos g]
        exact Tot.bindq (end_tot (a := p.1) k1 hn hlh) fun r hr => Tot.ret hr
      · exact Tot.ret (by rw [if_neg (c := p.2.2.2.1 = true) (by rw [g]; simp)])
    replace hj := hj.symm; subst hj
    refine Tot.bindq (P := fun j => j = b) ?_ fun j hj => ?_
    · rw [← e5]
      refine Tot.ite (fun g => ?_) fun g => ?_
      · rw [if_pos g]
        exact Tot.bindq (end_tot (a := p.2.1) k2 hn hlh) fun r hr => Tot.ret hr
      · exact Tot.ret (by rw [if_neg (c := p.2.2.2.2.1 = true) (by rw [g]; simp)])
    replace hj := hj.symm; subst hj
    have nzok : ∀ {x : Int}, x ≠ 0 → nz x = some () := fun {x} h => by unfold nz; rw [if_neg h]
    unfold cntI
    refine Tot.ite (fun g => ?_) fun g => ?_
    · have g := of_decide_eq_true g
      rw [i64_small (x := 0 - st) (by omega) (by omega), i64_small (x := a - b) (by omega) (by omega), i64_small (x := a - b - st) (by omega) (by omega), i64_small (x := a - b - st - 1) (by omega) (by omega)]
      refine Tot.bind0 (nzok (by omega)) (Tot.some_bind (Tot.ret ?_))
      have hd := tdiv_le (x := a - b - st - 1) (s := 0 - st) (by omega) (by omega) (by omega)
      rw [i64_wrap hd.1 hd.2, tdiv_pos (by omega), if_neg (by omega), Int.zero_sub]
    · have g := of_decide_eq_false g
      rw [i64_small (x := b - a) (by omega) (by omega), i64_small (x := b - a + st) (by omega) (by omega), i64_small (x := b - a + st - 1) (by omega) (by omega)]
      refine Tot.bind0 (nzok (by omega)) (Tot.some_bind (Tot.ret ?_))
      have hd := tdiv_le (x := b - a + st - 1) (s := st) (by omega) (by omega) (by omega)
      rw [i64_wrap hd.1 hd.2, tdiv_pos (by omega), if_pos (by omega)]
  · exact Tot.it (by simpa using h) (Tot.ret (by rw [if_neg h]))
end Go.Gv.R
namespace Go.Gv.R
open Go Go.Gv Go.Gv.D Go.Lib Go.Gv.RI

def placesL (a st : Int) (k : Nat) : List Int := (List.range k).map fun (j : Nat) => a + (j : Int) * st
theorem placesL_succ (a st : Int) (k : Nat) : placesL a st (k + 1) = placesL a st k ++ [a + (k : Int) * st] := by
  unfold placesL; rw [List.range_succ, List.map_append]; rfl
theorem placesL_len (a st : Int) (k : Nat) : (placesL a st k).length = k := by unfold placesL; simp
theorem placesL_get {a st : Int} {k i : Nat} (h : i < k) : idx (placesL a st k) (i : Int) = some (a + (i : Int) * st) := by
  rw [idx_nat (by rw [placesL_len]; exact h)]
  unfold placesL; simp
/-- all that a slice picks lies within -/
theorem place_in {p : SlT} {n : Int} (hn : 0 ≤ n) (h : p.2.2.2.2.2 = true → ival p.2.2.1 ≠ 0) {st lo hi a b : Int} (e : wholeI p n = (st, lo, hi, a, b)) {k : Nat} (hk : k < cntI a b st) :
    0 ≤ a + (k : Int) * st ∧ a + (k : Int) * st < n ∧ (0 < st → a ≤ a + (k : Int) * st) ∧ (st < 0 → a + (k : Int) * st ≤ a) := by
  obtain ⟨f1, f2, f3, f4, f5, f6, f7, f8⟩ := wholeI_facts hn h e
  rcases f4 with ⟨g, rfl, rfl⟩ | ⟨g, rfl, rfl⟩
  · have h1 := (cnt_neg (a := a) (b := b) g k).2 hk
    have h2 : (k : Int) * st ≤ 0 := Int.mul_nonpos_of_nonneg_of_nonpos (by omega) (by omega)
    refine ⟨by omega, by omega, fun h => by omega, fun _ => by omega⟩
  · have h1 := (cnt_pos (a := a) (b := b) g k).2 hk
    have h2 : 0 ≤ (k : Int) * st := Int.mul_nonneg (by omega) (by omega)
    refine ⟨by omega, by omega, fun _ => by omega, fun h => by omega⟩
theorem cnt_le {p : SlT} {n : Int} (hn : 0 ≤ n ∧ n ≤ 4000) (h : p.2.2.2.2.2 = true → ival p.2.2.1 ≠ 0) {st lo hi a b : Int} (e : wholeI p n = (st, lo, hi, a, b)) : cntI a b st ≤ 4000 := by
  obtain ⟨f1, f2, f3, f4, f5, f6, f7, f8⟩ := wholeI_facts hn.1 h e
  rcases Nat.eq_zero_or_pos (cntI a b st) with h0 | h0
  · omega
  obtain ⟨k, hk⟩ : ∃ k, cntI a b st = k + 1 := ⟨cntI a b st - 1, by omega⟩
  have := place_in hn.1 h e (k := k) (by omega)
  rcases f4 with ⟨g, rfl, rfl⟩ | ⟨g, rfl, rfl⟩
  · have h2 : (k : Int) * st ≤ (k : Int) * (-1) := Int.mul_le_mul_of_nonneg_left (by omega) (by omega)
    omega
  · have h2 : (k : Int) * 1 ≤ (k : Int) * st := Int.mul_le_mul_of_nonneg_left (by omega) (by omega)
    omega
theorem mul_succ' (k : Nat) (s a : Int) : a + ((k + 1 : Nat) : Int) * s = a + (k : Int) * s + s := by
  rw [Int.natCast_succ, Int.add_mul, Int.one_mul, Int.add_assoc]
theorem Places_tot {p : SlT} (k1 : OkI p.1) (k2 : OkI p.2.1) (k3 : OkI p.2.2.1) (k4 : p.2.2.2.2.2 = true → ival p.2.2.1 ≠ 0) {n : Int} (hn : 0 ≤ n ∧ n ≤ 4000) {st lo hi a b : Int} (e : wholeI p n = (st, lo, hi, a, b)) :
    Tot (fun fuel => ref3_Places fuel p n) (fun r => r = (a, st, placesL a st (cntI a b st))) := by
  obtain ⟨f1, f2, f3, f4, f5, f6, f7, f8⟩ := wholeI_facts hn.1 k4 e
  have hcl := cnt_le hn k4 e
  have hin := fun k hk => place_in hn.1 k4 e (k := k) hk
  unfold wholeI at e
  dsimp only at e
  simp only [Prod.mk.injEq] at e
  obtain ⟨e1, e2, e3, e4, e5⟩ := e
  rw [e1] at e2 e3 e4 e5
  rw [e2, e3] at e4 e5
  unfold ref3_Places
  refine Tot.bindq (P := fun j => j = st) ?_ fun j hj => ?_
  · rw [← e1]
    refine Tot.ite (fun g => ?_) fun g => ?_
    · rw [if_pos g]
      refine Tot.bindq (IntOf_tot (a := p.2.2.1) k3) fun ⟨rb, rl⟩ ⟨g1, g2, g3, g4⟩ => Tot.bindq (near_tot (a := (rb, rl)) g2 (by omega) (by omega) (by omega)) fun r hr => Tot.ret ?_
      rw [hr, iv3_of g1 g3]
    · rw [if_neg (by rw [g]; simp)]; exact Tot.ret rfl
  replace hj := hj.symm; subst hj
  refine Tot.bindq (P := fun j => j = (lo, hi)) ?_ fun j hj => ?_
  · rw [← e2, ← e3]
    refine Tot.ite (fun g => Tot.ret ?_) fun g => Tot.ret ?_
    · have g := of_decide_eq_true g
      rw [if_pos g, if_pos g, i64_small (by omega) (by omega)]
    · have g := of_decide_eq_false g
      rw [if_neg g, if_neg g]
  subst hj
  refine Tot.bindq (P := fun j => j = (if st < 0 then hi else lo, if st < 0 then lo else hi)) ?_ fun j hj => ?_
  · refine Tot.ite (fun g => Tot.ret ?_) fun g => Tot.ret ?_
    · have g := of_decide_eq_true g
      rw [if_pos g, if_pos g]
    · have g := of_decide_eq_false g
      rw [if_neg g, if_neg g]
  subst hj
  have hlh : (lo = 0 ∧ hi = n) ∨ (lo = -1 ∧ hi = n - 1) := by omega
  refine Tot.bindq (P := fun j => j = a) ?_ fun j hj => ?_
  · rw [← e4]
    refine Tot.ite (fun g => ?_) fun g => ?_
    · rw [if_pos g]
      exact Tot.bindq (endAt_tot (a := p.1) k1 ⟨hn.1, by omega⟩ hlh) fun r hr => Tot.ret hr
    · exact Tot.ret (by rw [if_neg (c := p.2.2.2.1 = true) (by rw [g]; simp)])
  replace hj := hj.symm; subst hj
  refine Tot.bindq (P := fun j => j = b) ?_ fun j hj => ?_
  · rw [← e5]
    refine Tot.ite (fun g => ?_) fun g => ?_
    · rw [if_pos g]
      exact Tot.bindq (endAt_tot (a := p.2.1) k2 ⟨hn.1, by omega⟩ hlh) fun r hr => Tot.ret hr
    · exact Tot.ret (by rw [if_neg (c := p.2.2.2.2.1 = true) (by rw [g]; simp)])
  replace hj := hj.symm; subst hj
  refine Tot.bindq (P := fun j => j = placesL a st (cntI a b st)) ?_ fun j hj => Tot.ret (by rw [hj])
  refine Tot.loop (fun x => ∃ k : Nat, x = (placesL a st k, a + (k : Int) * st) ∧ k ≤ cntI a b st ∧ -20000 ≤ a + (k : Int) * st ∧ a + (k : Int) * st ≤ 20000) (fun x => cntI a b st - x.1.length) ⟨0, by simp [placesL], by omega, by rw [Int.natCast_zero, Int.zero_mul]; omega, by rw [Int.natCast_zero, Int.zero_mul]; omega⟩ fun x ⟨k, ex, hk, b1, b2⟩ => ?_
  subst ex
  dsimp only
  have hc : (if (decide (st > 0)) then ((decide (a + (k : Int) * st < b)) || ((decide (st < 0)) && (decide (a + (k : Int) * st > b)))) else ((decide (st < 0)) && (decide (a + (k : Int) * st > b)))) = decide (k < cntI a b st) := by
    rcases f4 with ⟨g, _⟩ | ⟨g, _⟩
    · rw [decide_eq_false (show ¬ st > 0 by omega), decide_eq_true g]
      simp only [Bool.false_eq_true, if_false, Bool.true_and]
      exact decide_eq_decide.2 (cnt_neg g k)
    · rw [decide_eq_true (show st > 0 from g), decide_eq_false (show ¬ st < 0 by omega)]
      simp only [if_true, Bool.false_and, Bool.or_false]
      exact decide_eq_decide.2 (cnt_pos g k)
  rw [hc]
  refine Tot.ite (fun g => ?_) fun g => ?_
  · have g := of_decide_eq_true g
    have hi' := hin k g
    have hms := mul_succ' k st a
    refine Tot.bind0 (app_ok (by rw [placesL_len]; simp; omega)) (Tot.ret ⟨⟨k + 1, ?_, g, ?_, ?_⟩, ?_⟩)
    · rw [placesL_succ, i64_small (by omega) (by omega), hms]
    · rw [hms]; omega
    · rw [hms]; omega
    · simp only [List.length_append, placesL_len, List.length_singleton]; omega
  · have g : k = cntI a b st := by have := of_decide_eq_false g; omega
    exact Tot.ret (by rw [g])

def pick (p : List Nat) (l : List Int) : List Nat := l.map fun i => p.getD i.toNat 0
theorem pick_get {p : List Nat} {x : Int} (h0 : 0 ≤ x) (h1 : x < p.length) : idx (ints p) x = some ((p.getD x.toNat 0 : Nat) : Int) := by
  obtain ⟨i, rfl⟩ : ∃ i : Nat, x = i := ⟨x.toNat, by omega⟩
  rw [ints_get (by omega), Int.toNat_natCast, List.getD_eq_getElem?_getD, List.getElem?_eq_getElem (by omega)]
  rfl
theorem pick_snoc (p : List Nat) (l : List Int) (x : Int) : pick p (l ++ [x]) = pick p l ++ [p.getD x.toNat 0] := by simp [pick]
theorem pick_len (p : List Nat) (l : List Int) : (pick p l).length = l.length := by simp [pick]
theorem pick_scal {p : List Nat} (hp : ∀ r ∈ p, Scal r) (l : List Int) : ∀ r ∈ pick p l, Scal r := fun r hr => by
  obtain ⟨i, _, e⟩ := List.mem_map.1 hr
  rw [← e, List.getD_eq_getElem?_getD]
  cases h : p[i.toNat]? with
  | none => exact .inl (by decide)
  | some y => exact hp y (List.mem_of_getElem? h)
theorem Take_tot {q : SlT} (d1 : Dg q.1.2) (d2 : Dg q.2.1.2) (d3 : Dg q.2.2.1.2) {p : List Nat} (hp : p.length ≤ 4000) :
    Tot (fun fuel => slicing_Take_rune fuel (ints p) q) (fun r => if (sliceF q).1 = 0 then r = (ints (pick p (placesL (wholeI q p.length).2.2.2.1 (wholeI q p.length).1 (cntI (wholeI q p.length).2.2.2.1 (wholeI q p.length).2.2.2.2 (wholeI q p.length).1))), (0, 0)) else r = ([], sliceF q)) := by
  obtain ⟨st, lo, hi, a, b, e⟩ : ∃ st lo hi a b, wholeI q p.length = (st, lo, hi, a, b) := ⟨_, _, _, _, _, rfl⟩
  unfold slicing_Take_rune
  rw [ints_len]
  refine Tot.bindq (Resolve_tot (p := q) d1 d2 d3 (n := p.length) (by omega)) fun r hr => ?_
  by_cases h : (sliceF q).1 = 0
  · rw [if_pos h, e] at hr
    subst hr
    obtain ⟨k1, k2, k3, k4, k5⟩ := sliceF_ok d1 d2 d3 h
    have hin := fun k hk => place_in (by omega) k4 e (k := k) hk
    have hcl := cnt_le (by omega) k4 e
    obtain ⟨f1, f2, f3, f4, f5, f6, f7, f8⟩ := wholeI_facts (by omega) k4 e
    dsimp only
    refine Tot.if_ rfl (Tot.bindq (P := fun j => j = ints (pick p (placesL a st (cntI a b st)))) ?_ fun j hj => Tot.ret (by rw [if_pos h, hj, e]))
    refine Tot.loop (fun x => ∃ k : Nat, x = (ints (pick p (placesL a st k)), (k : Int)) ∧ k ≤ cntI a b st) (fun x => cntI a b st - x.2.toNat) ⟨0, by simp [placesL, pick, ints], by omega⟩ fun x ⟨k, ex, hk⟩ => ?_
    subst ex
    dsimp only
    refine Tot.ite (fun g => ?_) fun g => ?_
    · have g : k < cntI a b st := by have := of_decide_eq_true g; omega
      have hi' := hin k g
      rw [i64_small (x := (k : Int) * st) (by omega) (by omega), i64_small (by omega) (by omega)]
      refine Tot.bind0 (pick_get (by omega) (by omega)) (Tot.bind0 (app_ok (by rw [ints_len, pick_len, placesL_len]; simp; omega)) (Tot.ret ⟨⟨k + 1, ?_, g⟩, ?_⟩))
      · rw [placesL_succ, pick_snoc, ints_app, iw (n := k + 1) (by omega) (by omega)]; rfl
      · dsimp only; rw [iw (n := k + 1) (by omega) (by omega)]; omega
    · have g : k = cntI a b st := by have := of_decide_eq_false g; omega
      exact Tot.ret (by rw [g])
  · rw [if_neg h] at hr
    subst hr
    exact Tot.it (by simpa using h) (Tot.ret (by rw [if_neg h]))
end Go.Gv.R

