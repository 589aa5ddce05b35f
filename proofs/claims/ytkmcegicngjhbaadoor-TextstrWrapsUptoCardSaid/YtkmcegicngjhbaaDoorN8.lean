import Derived.Test.YtkmcegicngjhbaaDoorN5
set_option linter.all false
namespace Go.Gv.R
open Go Go.Gv Go.Gv.D Go.Lib

/-! distances of lists, from their ends -/
def drow (x : Nat) (f : List Nat → Nat) (n : Nat) : List Nat → Nat
  | [] => n
  | y :: b => if x = y then f b else min (min (f b) (drow x f n b)) (f (y :: b)) + 1
def dst : List Nat → List Nat → Nat
  | [], b => b.length
  | x :: a, b => drow x (dst a) (a.length + 1) b
theorem dst_nil : ∀ a, dst a [] = a.length
  | [] => rfl
  | _ :: _ => rfl
theorem dst_cons (x y : Nat) (a b : List Nat) : dst (x :: a) (y :: b) = if x = y then dst a b else min (min (dst a b) (dst (x :: a) b)) (dst a (y :: b)) + 1 := rfl
theorem dst_step : ∀ a : List Nat, (∀ y b, dst a b ≤ dst a (y :: b) + 1 ∧ dst a (y :: b) ≤ dst a b + 1) ∧ (∀ x b, dst a b ≤ dst (x :: a) b + 1 ∧ dst (x :: a) b ≤ dst a b + 1) := by
  intro a
  have Q : ∀ a : List Nat, (∀ y b, dst a b ≤ dst a (y :: b) + 1 ∧ dst a (y :: b) ≤ dst a b + 1) → (∀ x b, dst a b ≤ dst (x :: a) b + 1 ∧ dst (x :: a) b ≤ dst a b + 1) := by
    intro a P x b
    induction b with
    | nil => rw [dst_nil, dst_nil, List.length_cons]; omega
    | cons y b ih =>
      have p := P y b
      rw [dst_cons]
      by_cases h : x = y
      · rw [if_pos h]; omega
      · rw [if_neg h]; omega
  induction a with
  | nil =>
    have P : ∀ y b, dst [] b ≤ dst [] (y :: b) + 1 ∧ dst [] (y :: b) ≤ dst [] b + 1 := by
      intro y b
      show b.length ≤ (y :: b).length + 1 ∧ (y :: b).length ≤ b.length + 1
      rw [List.length_cons]; omega
    exact ⟨P, Q [] P⟩
  | cons x a ih =>
    have P : ∀ y b, dst (x :: a) b ≤ dst (x :: a) (y :: b) + 1 ∧ dst (x :: a) (y :: b) ≤ dst (x :: a) b + 1 := by
      intro y b
      have p := ih.1 y b
      have q := ih.2 x b
      rw [dst_cons]
      by_cases h : x = y
      · rw [if_pos h]; omega
      · rw [if_neg h]; omega
    exact ⟨P, Q _ P⟩
theorem dst_high : ∀ a b : List Nat, dst a b ≤ max a.length b.length
  | [], b => by show b.length ≤ _; omega
  | x :: a, b => by
    induction b with
    | nil => rw [dst_nil]; omega
    | cons y b ih =>
      have h1 := dst_high a b
      rw [dst_cons]
      simp only [List.length_cons] at *
      by_cases h : x = y
      · rw [if_pos h]; omega
      · rw [if_neg h]; omega
/-- the other way to reckon it -/
theorem dst_other (x y : Nat) (a b : List Nat) : dst (x :: a) (y :: b) = min (min (if x = y then dst a b else dst a b + 1) (dst a (y :: b) + 1)) (dst (x :: a) b + 1) := by
  rw [dst_cons]
  have h1 := (dst_step a).1 y b
  have h2 := (dst_step a).2 x b
  by_cases h : x = y
  · rw [if_pos h, if_pos h]; omega
  · rw [if_neg h, if_neg h]; omega
end Go.Gv.R
namespace Go.Gv.R
open Go Go.Gv Go.Gv.D Go.Lib

/-- the distance of two beginnings -/
def dT (a b : List Nat) (i k : Nat) : Nat := dst (a.take i).reverse (b.take k).reverse
theorem take_rev {a : List Nat} {i : Nat} (h : i < a.length) : (a.take (i + 1)).reverse = a[i] :: (a.take i).reverse := by
  rw [List.take_succ_eq_append_getElem h]; simp
theorem dT_zero (a b : List Nat) {k : Nat} (h : k ≤ b.length) : dT a b 0 k = k := by
  unfold dT
  rw [List.take_zero]
  show ((b.take k).reverse).length = k
  rw [List.length_reverse, List.length_take]; omega
theorem dT_col (a b : List Nat) {i : Nat} (h : i ≤ a.length) : dT a b i 0 = i := by
  unfold dT
  rw [List.take_zero]
  show dst _ [] = i
  rw [dst_nil, List.length_reverse, List.length_take]; omega
theorem dT_next {a b : List Nat} {i k : Nat} (hi : i < a.length) (hk : k < b.length) : dT a b (i + 1) (k + 1) = if a[i] = b[k] then dT a b i k else min (min (dT a b i k) (dT a b (i + 1) k)) (dT a b i (k + 1)) + 1 := by
  unfold dT
  rw [take_rev hi, take_rev hk, dst_cons]
theorem dT_next' {a b : List Nat} {i k : Nat} (hi : i < a.length) (hk : k < b.length) : dT a b (i + 1) (k + 1) = min (min (if a[i] = b[k] then dT a b i k else dT a b i k + 1) (dT a b i (k + 1) + 1)) (dT a b (i + 1) k + 1) := by
  unfold dT
  rw [take_rev hi, take_rev hk, dst_other]
theorem dT_le {a b : List Nat} {i k : Nat} : dT a b i k ≤ a.length + b.length := by
  have := dst_high (a.take i).reverse (b.take k).reverse
  simp only [List.length_reverse, List.length_take] at this
  unfold dT; omega

/-- a row of numbers by their places -/
def rowF (m : Nat) (f : Nat → Nat) : List Nat := (List.range m).map f
theorem rowF_len (m : Nat) (f : Nat → Nat) : (rowF m f).length = m := by simp [rowF]
theorem rowF_get {m : Nat} {f : Nat → Nat} {i : Nat} (h : i < m) : idx (ints (rowF m f)) (i : Int) = some ((f i : Nat) : Int) := by
  rw [ints_get (by rw [rowF_len]; exact h)]
  simp [rowF]
theorem rowF_upd {m : Nat} {f g : Nat → Nat} {i v : Nat} (h : i < m) (hv : g i = v) (hg : ∀ j, j < m → j ≠ i → g j = f j) : upd (ints (rowF m f)) (i : Int) (v : Int) = some (ints (rowF m g)) := by
  unfold upd
  rw [if_pos ⟨by omega, by rw [ints_len, rowF_len]; omega⟩, Int.toNat_natCast]
  refine congrArg some ?_
  refine List.ext_getElem (by simp [ints, rowF]) fun j h1 h2 => ?_
  have hj : j < m := by simpa [ints, rowF] using h2
  rw [List.getElem_set]
  by_cases e : i = j
  · subst e
    rw [if_pos rfl]; simp [ints, rowF, hv]
  · rw [if_neg e]
    simp [ints, rowF, hg j hj (fun h => e h.symm)]
theorem rowF_congr {m : Nat} {f g : Nat → Nat} (h : ∀ j, j < m → f j = g j) : rowF m f = rowF m g := by
  unfold rowF
  exact List.map_congr_left fun j hj => h j (List.mem_range.1 hj)
theorem zeros (m : Nat) : mkC ((m : Nat) : Int) ((m : Nat) : Int) (0 : Int) = if m ≤ 1073741824 then some (ints (rowF m fun _ => 0)) else none := by
  unfold mkC
  by_cases h : m ≤ 1073741824
  · rw [if_pos ⟨by omega, by omega, by omega⟩, if_pos h]
    refine congrArg some (List.ext_getElem (by simp [ints, rowF]) fun j h1 h2 => ?_)
    simp [ints, rowF]
  · rw [if_neg (fun hh => by omega), if_neg h]

theorem Distance_tot {p q : List Nat} (hp : ∀ r ∈ p, Scal r) (hq : ∀ r ∈ q, Scal r) (hl : (enc p).length ≤ 4000) (hl2 : (enc q).length ≤ 4000) : Tot (fun n => textstr_Distance n (strOf (enc p)) (strOf (enc q))) (· = ((dst p.reverse q.reverse : Int), (0, 0))) := by
  unfold textstr_Distance
  refine Tot.bindq (tcheck_tot (by simp) (by simp [size_str]; omega)) fun r hr => ?_
  rw [check_ok (by simp) (by simp; exact ⟨okS_enc hp hl, okS_enc hq hl2⟩)] at hr; subst hr
  have hpl := enc_len_ge p
  have hql := enc_len_ge q
  refine Tot.if_ rfl (Tot.bind0 (rn_enc hp (by omega)) (Tot.bind0 (rn_enc hq (by omega)) ?_))
  rw [ints_len, ints_len]
  have hw : IntKind.i64.wrap (((q.length : Nat) : Int) + 1) = ((q.length + 1 : Nat) : Int) := iw (by omega) (by omega)
  rw [hw]
  refine Tot.bind0 (a := ints (rowF (q.length + 1) fun _ => 0)) (by rw [zeros, if_pos (by omega)]) ?_
  rw [ints_len, rowF_len]
  refine Tot.bindq (P := fun j => j = ints (rowF (q.length + 1) (dT p q 0))) ?_ fun j hj => ?_
  · refine Tot.loop (fun st => ∃ i : Nat, st = (ints (rowF (q.length + 1) fun j => if j < i then j else 0), (i : Int)) ∧ i ≤ q.length + 1) (fun st => q.length + 1 - st.2.toNat) ⟨0, rfl, Nat.zero_le _⟩ fun st ⟨i, e, hi⟩ => ?_
    subst e
    dsimp only
    refine Tot.ite (fun g => ?_) fun g => ?_
    · have g : i < q.length + 1 := by have := of_decide_eq_true g; omega
      refine Tot.bind0 (rowF_get g) (Tot.bind0 (rowF_upd (g := fun j => if j < i + 1 then j else 0) (v := i) g (if_pos (by omega)) (fun j _ hj => ?_)) (Tot.ret ⟨⟨i + 1, ?_, by omega⟩, ?_⟩))
      · by_cases h : j < i
        · rw [if_pos h, if_pos (by omega)]
        · rw [if_neg h, if_neg (by omega)]
      · rw [iw (n := i + 1) (by omega) (by omega)]
      · dsimp only; rw [iw (n := i + 1) (by omega) (by omega)]; omega
    · have g : i = q.length + 1 := by have := of_decide_eq_false g; omega
      subst g
      refine Tot.ret (congrArg ints (rowF_congr fun j hj => ?_))
      rw [if_pos hj, dT_zero p q (by omega)]
  subst hj
  refine Tot.bindq (P := fun j => j = ints (rowF (q.length + 1) (dT p q p.length))) ?_ fun j hj => ?_
  · refine Tot.loop (fun st => ∃ i : Nat, st = (ints (rowF (q.length + 1) (dT p q i)), (i : Int)) ∧ i ≤ p.length) (fun st => p.length - st.2.toNat) ⟨0, rfl, Nat.zero_le _⟩ fun st ⟨i, e, hi⟩ => ?_
    subst e
    dsimp only
    refine Tot.ite (fun g => ?_) fun g => ?_
    · have g : i < p.length := by have := of_decide_eq_true g; omega
      have h0 : idx (ints (rowF (q.length + 1) (dT p q i))) 0 = some ((i : Nat) : Int) := by
        have := rowF_get (m := q.length + 1) (f := dT p q i) (i := 0) (by omega)
        rw [dT_col p q hi] at this; exact this
      have hw1 : IntKind.i64.wrap ((i : Int) + 1) = ((i + 1 : Nat) : Int) := iw (by omega) (by omega)
      rw [hw1]
      refine Tot.bind0 (ints_get g) (Tot.bind0 h0 (Tot.bind0 h0 (Tot.bind0 (rowF_upd (i := 0) (g := fun j => if j ≤ 0 then dT p q (i + 1) j else dT p q i j) (v := i + 1) (by omega) ?_ (fun j _ hj => if_neg (by omega))) ?_)))
      · show (if 0 ≤ 0 then _ else _) = _
        rw [if_pos (Nat.le_refl _), dT_col p q (by omega)]
      · refine Tot.bindq (P := fun j => j = ints (rowF (q.length + 1) (dT p q (i + 1)))) ?_ fun j hj => Tot.ret ⟨⟨i + 1, by rw [hj], g⟩, by dsimp only; omega⟩
        refine Tot.loop (fun st => ∃ k : Nat, st = (ints (rowF (q.length + 1) fun j => if j ≤ k then dT p q (i + 1) j else dT p q i j), ((dT p q i k : Nat) : Int), (k : Int)) ∧ k ≤ q.length) (fun st => q.length - st.2.2.toNat) ⟨0, by rw [dT_col p q hi]; rfl, Nat.zero_le _⟩ fun st ⟨k, e, hk⟩ => ?_
        subst e
        dsimp only
        refine Tot.ite (fun gk => ?_) fun gk => ?_
        · have gk : k < q.length := by have := of_decide_eq_true gk; omega
          have hk1 : IntKind.i64.wrap ((k : Int) + 1) = ((k + 1 : Nat) : Int) := iw (by omega) (by omega)
          have b1 := dT_le (a := p) (b := q) (i := i) (k := k)
          have b2 := dT_le (a := p) (b := q) (i := i + 1) (k := k)
          have b3 := dT_le (a := p) (b := q) (i := i) (k := k + 1)
          have gA : idx (ints (rowF (q.length + 1) fun j => if j ≤ k then dT p q (i + 1) j else dT p q i j)) (k : Int) = some ((dT p q (i + 1) k : Nat) : Int) := by
            rw [rowF_get (by omega), if_pos (Nat.le_refl _)]
          have gB : idx (ints (rowF (q.length + 1) fun j => if j ≤ k then dT p q (i + 1) j else dT p q i j)) ((k + 1 : Nat) : Int) = some ((dT p q i (k + 1) : Nat) : Int) := by
            rw [rowF_get (by omega), if_neg (by omega)]
          rw [hk1]
          refine Tot.bind0 (ints_get gk) (Tot.bindq (P := fun v => v = ((dT p q (i + 1) (k + 1) : Nat) : Int)) ?_ fun v hv => ?_)
          · refine Tot.ite (fun ne => ?_) fun eq => Tot.ret ?_
            · have ne : p[i] ≠ q[k] := fun e => by rw [e] at ne; simp at ne
              refine Tot.bind0 gA (Tot.bind0 gB (Tot.some_bind (Tot.ret ?_)))
              rw [dT_next g gk, if_neg ne]
              have hmin : (if ((dT p q i (k + 1) : Nat) : Int) < (if ((dT p q (i + 1) k : Nat) : Int) < ((dT p q i k : Nat) : Int) then ((dT p q (i + 1) k : Nat) : Int) else ((dT p q i k : Nat) : Int)) then ((dT p q i (k + 1) : Nat) : Int) else (if ((dT p q (i + 1) k : Nat) : Int) < ((dT p q i k : Nat) : Int) then ((dT p q (i + 1) k : Nat) : Int) else ((dT p q i k : Nat) : Int))) = ((min (min (dT p q i k) (dT p q (i + 1) k)) (dT p q i (k + 1)) : Nat) : Int) := by
                split <;> split at * <;> omega
              rw [hmin]
              exact iw (by omega) (by omega)
            · have eq : p[i] = q[k] := by
                by_cases e : ((p[i] : Nat) : Int) = ((q[k] : Nat) : Int)
                · omega
                · rw [bne_iff_ne.2 e] at eq; cases eq
              rw [dT_next g gk, if_pos eq]
          · subst hv
            refine Tot.bind0 gB (Tot.bind0 gB (Tot.bind0 (rowF_upd (g := fun j => if j ≤ k + 1 then dT p q (i + 1) j else dT p q i j) (by omega) (if_pos (Nat.le_refl _)) (fun j _ hj => ?_)) (Tot.ret ⟨⟨k + 1, rfl, gk⟩, by dsimp only; omega⟩)))
            by_cases h : j ≤ k
            · rw [if_pos h, if_pos (by omega)]
            · rw [if_neg h, if_neg (by omega)]
        · have gk : k = q.length := by have := of_decide_eq_false gk; omega
          subst gk
          exact Tot.ret (congrArg ints (rowF_congr fun j hj => if_pos (by omega)))
    · have g : i = p.length := by have := of_decide_eq_false g; omega
      subst g
      exact Tot.ret rfl
  subst hj
  refine Tot.bind0 (rowF_get (by omega)) (Tot.ret ?_)
  unfold dT
  rw [List.take_length, List.take_length]

end Go.Gv.R

