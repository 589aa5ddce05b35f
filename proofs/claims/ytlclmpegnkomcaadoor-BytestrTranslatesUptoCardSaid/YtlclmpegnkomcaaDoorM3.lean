import Derived.Test.YtlclmpegnkomcaaDoorM1
set_option linter.all false
namespace Go.Gv.R
open Go Go.Gv Go.Gv.D Go.Lib

/-! ### the first place of a byte -/
def ix (l : List UInt8) (x : UInt8) : Int := Lib.indexByte l x
theorem ix_none {l : List UInt8} {x : UInt8} (h : ∀ k, k < l.length → l[k]? ≠ some x) : ix l x = -1 := by
  induction l with
  | nil => rfl
  | cons y l ih =>
    have h0 := h 0 (by simp)
    have : (y == x) = false := beq_eq_false_iff_ne.2 fun e => h0 (by simp [e])
    have hl := ih fun k hk => by
      have := h (k + 1) (by simp; omega)
      simpa using this
    unfold ix at *
    show (if (y == x) = true then (0 : Int) else if (Lib.indexByte l x == -1) = true then -1 else Lib.indexByte l x + 1) = -1
    rw [this, hl]; rfl
theorem ix_some {l : List UInt8} {x : UInt8} {i : Nat} (hi : l[i]? = some x) (h : ∀ k, k < i → l[k]? ≠ some x) : ix l x = (i : Int) := by
  induction l generalizing i with
  | nil => simp at hi
  | cons y l ih =>
    unfold ix at *
    show (if (y == x) = true then (0 : Int) else if (Lib.indexByte l x == -1) = true then -1 else Lib.indexByte l x + 1) = _
    cases i with
    | zero =>
      have : (y == x) = true := beq_iff_eq.2 (by simpa using hi)
      rw [if_pos this]; rfl
    | succ i =>
      have h0 := h 0 (by omega)
      have : (y == x) = false := beq_eq_false_iff_ne.2 fun e => h0 (by simp [e])
      have hl := ih (i := i) (by simpa using hi) fun k hk => by
        have := h (k + 1) (by omega)
        simpa using this
      rw [this, hl]
      rw [if_neg (by simp), if_neg (by rw [beq_eq_false_iff_ne.2 (by omega)]; simp)]
      omega
theorem ix_cases (l : List UInt8) (x : UInt8) : (ix l x = -1 ∧ ∀ k, k < l.length → l[k]? ≠ some x) ∨ ∃ i : Nat, i < l.length ∧ ix l x = (i : Int) ∧ l[i]? = some x ∧ ∀ k, k < i → l[k]? ≠ some x := by
  by_cases h : ∃ i : Nat, l[i]? = some x
  · have hd : ∃ i : Nat, l[i]? = some x ∧ ∀ k, k < i → l[k]? ≠ some x := by
      obtain ⟨i, hi⟩ := h
      induction i using Nat.strongRecOn with
      | _ i ih =>
        by_cases g : ∃ k, k < i ∧ l[k]? = some x
        · obtain ⟨k, hk, e⟩ := g
          exact ih k hk e
        · exact ⟨i, hi, fun k hk e => g ⟨k, hk, e⟩⟩
    obtain ⟨i, h1, h2⟩ := hd
    have hl := (List.getElem?_eq_some_iff.1 h1).1
    exact .inr ⟨i, hl, ix_some h1 h2, h1, h2⟩
  · exact .inl ⟨ix_none fun k _ e => h ⟨k, e⟩, fun k _ e => h ⟨k, e⟩⟩
theorem nIdx_ix (l : List UInt8) (x : UInt8) : nIdxB l (x.toNat : Int) = ix l x := by
  unfold nIdxB ix
  rw [Int.toNat_natCast]
  congr 1
  show UInt8.ofNat x.toNat = x
  exact UInt8.ofNat_toNat
theorem lawIx_tot {l : List UInt8} (hl : l.length ≤ 1152921504606846976) (x : UInt8) : Tot (fun fuel => law4_BytestrTranslates_1 fuel l (x.toNat : Int)) (fun r => r = ix l x) := by
  unfold law4_BytestrTranslates_1
  refine Tot.bindq (P := fun r => r = .inr (ix l x) ∨ (r = .inl () ∧ ix l x = -1)) ?_ fun r hr => ?_
  · refine Tot.loop (fun st => ∃ i : Nat, st = (i : Int) ∧ i ≤ l.length ∧ ∀ k, k < i → l[k]? ≠ some x) (fun st => l.length - st.toNat) ⟨0, rfl, by omega, fun k h => absurd h (by omega)⟩ fun st ⟨i, e, hi, h⟩ => ?_
    subst e
    refine Tot.ite (fun q => ?_) (fun q => ?_)
    · have q : i < l.length := by have : ((i : Nat) : Int) < (l.length : Int) := of_decide_eq_true q; omega
      refine Tot.bind0 (idx_nat q) (Tot.ite (fun g => ?_) (fun g => ?_))
      · have g : l[i].toNat = x.toNat := by have := eq_of_beq g; omega
        have e := UInt8.toNat.inj g
        exact Tot.ret (.inl (by rw [ix_some (by rw [List.getElem?_eq_getElem q, e]) h]))
      · have g : l[i] ≠ x := fun e => by rw [e] at g; simp at g
        refine Tot.ret ⟨⟨i + 1, iw (by omega) (by omega), q, fun k hk => ?_⟩, ?_⟩
        · rcases (by omega : k < i ∨ k = i) with h' | h'
          · exact h k h'
          · subst h'
            rw [List.getElem?_eq_getElem q]
            exact fun e => g (Option.some.inj e)
        · show l.length - (IntKind.i64.wrap ((i : Int) + 1)).toNat < l.length - ((i : Nat) : Int).toNat
          rw [iw (n := i + 1) (by omega) (by omega)]; omega
    · have q : i = l.length := by have : ¬ ((i : Nat) : Int) < (l.length : Int) := of_decide_eq_false q; omega
      subst q
      exact Tot.ret (.inr ⟨rfl, ix_none h⟩)
  · rcases hr with e | ⟨e, h⟩
    · subst e; exact Tot.contr rfl
    · subst e; exact Tot.contl (Tot.ret h.symm)

/-! ### joining -/
theorem join_snoc {xs : List (List UInt8)} (h : xs ≠ []) (y sep : List UInt8) : Lib.join (xs ++ [y]) sep = Lib.join xs sep ++ sep ++ y := by
  cases xs with
  | nil => exact absurd rfl h
  | cons x r =>
    rw [List.cons_append, join_cons, join_cons]
    unfold joinTail
    rw [List.map_append, List.flatten_append]
    simp [List.append_assoc]
theorem join_len (xs : List (List UInt8)) (sep : List UInt8) : (Lib.join xs sep).length = sep.length * (xs.length - 1) + lens xs := by
  cases xs with
  | nil => rfl
  | cons x r => rw [join_length]; rfl
theorem lens_le {l : List (List UInt8)} {i : Nat} : lens (l.take i) ≤ lens l := lens_take_le l i
theorem mul_le (a b : Nat) (ha : a ≤ 1048576) (hb : b ≤ 1048576) : a * b ≤ 1099511627776 := Nat.le_trans (Nat.mul_le_mul ha hb) (by decide)
theorem Join_tot {l : List (List UInt8)} {sep : List UInt8} (hl : l.length ≤ 1048576) (hs : sep.length ≤ 1048576) (hn : lens l ≤ 1048576) : Tot (fun fuel => bytestr_Join fuel l sep) (fun r => r = if 4000 < (Lib.join l sep).length then ([], (3, -1)) else (Lib.join l sep, (0, 0))) := by
  unfold bytestr_Join
  have hm := mul_le (l.length - 1) sep.length (by omega) hs
  have h0 : IntKind.i64.wrap ((if 0 < IntKind.i64.wrap (((l.length : Nat) : Int) - 1) then IntKind.i64.wrap (((l.length : Nat) : Int) - 1) else 0) * ((sep.length : Nat) : Int)) = (((l.length - 1) * sep.length : Nat) : Int) := by
    rw [i64_small (x := ((l.length : Nat) : Int) - 1) (by omega) (by omega)]
    have : (if (0 : Int) < ((l.length : Nat) : Int) - 1 then ((l.length : Nat) : Int) - 1 else 0) = ((l.length - 1 : Nat) : Int) := by split <;> omega
    rw [this, ← Int.natCast_mul]
    exact iw rfl (by omega)
  rw [h0]
  have hjl := join_len l sep
  rw [Nat.mul_comm] at hjl
  refine Tot.some_bind (Tot.bindq (P := fun j => j = (((Lib.join l sep).length : Nat) : Int)) ?_ fun j hj => ?_)
  · refine Tot.loop (fun st => ∃ i : Nat, st.2 = (i : Int) ∧ i ≤ l.length ∧ st.1 = (((l.length - 1) * sep.length + lens (l.take i) : Nat) : Int)) (fun st => l.length - st.2.toNat) ⟨0, rfl, by omega, rfl⟩ fun st ⟨i, e, hi, g⟩ => ?_
    obtain ⟨n, q⟩ := st
    simp only at e g
    subst e g
    dsimp only
    refine Tot.ite (fun q => ?_) (fun q => ?_)
    · have q : i < l.length := by have : ((i : Nat) : Int) < (l.length : Int) := of_decide_eq_true q; omega
      have h1 := lens_take_succ l i l[i] (List.getElem?_eq_getElem q)
      have h2 := lens_take_le l (i + 1)
      refine Tot.bind0 (idx_nat q) (Tot.some_bind (Tot.ret ⟨⟨i + 1, iw (by omega) (by omega), q, iw (by rw [h1]; omega) (by omega)⟩, ?_⟩))
      show l.length - (IntKind.i64.wrap ((i : Int) + 1)).toNat < l.length - ((i : Nat) : Int).toNat
      rw [iw (n := i + 1) (by omega) (by omega)]; omega
    · have q : i = l.length := by have : ¬ ((i : Nat) : Int) < (l.length : Int) := of_decide_eq_false q; omega
      subst q
      exact Tot.ret (by rw [hjl, List.take_length])
  · subst hj
    refine Tot.ite (fun q => ?_) (fun q => ?_)
    · have q : (((Lib.join l sep).length : Nat) : Int) > 4000 := of_decide_eq_true q
      refine Tot.bindq (bytestr_at_tot 3 (-1)) fun r hr => Tot.ret ?_
      subst hr
      rw [if_pos (by omega)]
    · have q : ¬ (((Lib.join l sep).length : Nat) : Int) > 4000 := of_decide_eq_false q
      refine Tot.bindq (P := fun x => x = Lib.join l sep) ?_ fun x hx => Tot.ret (by rw [hx, if_neg (by omega)])
      unfold bytes_Join
      rw [if_pos ⟨by omega, by rw [Nat.mul_comm]; omega⟩]
      exact Tot.ret rfl
theorem lawJoin_tot {l_4 : List (List UInt8)} {drop_3 : List UInt8} (hl : l_4.length ≤ 1048576) (hs : drop_3.length ≤ 1048576) (hn : lens l_4 ≤ 1048576) : Tot (fun fuel => (loopN (fun (s62 : ((List UInt8) × Int)) => (if ((decide (s62.2 < ((List.length l_4 : Nat) : Int))) && (decide (((List.length s62.1 : Nat) : Int) ≤ 4000))) then (Option.bind (if (decide (s62.2 > 0)) then (Option.bind (app s62.1 drop_3) fun l100 => (some (l100))) else (some (s62.1))) fun (j97 : (List UInt8)) => (Option.bind (idx l_4 s62.2) fun x141 => (Option.bind (app j97 x141) fun l147 => (some (.inl (l147, (IntKind.i64.wrap (s62.2 + 1)))))))) else (some (.inr (s62.1))))) fuel (([] : List UInt8), 0))) (fun r => r = Lib.join l_4 drop_3 ∨ (4000 < r.length ∧ 4000 < (Lib.join l_4 drop_3).length)) := by
  refine Tot.loop (fun st => ∃ i : Nat, st.2 = (i : Int) ∧ i ≤ l_4.length ∧ st.1 = Lib.join (l_4.take i) drop_3) (fun st => l_4.length - st.2.toNat) ⟨0, rfl, by omega, rfl⟩ fun st ⟨i, e, hi, g⟩ => ?_
  obtain ⟨out, q⟩ := st
  simp only at e g
  subst e g
  dsimp only
  have hlen : ∀ i, i ≤ l_4.length → (Lib.join (l_4.take i) drop_3).length ≤ 1099511627776 + 1048576 := fun i hi => by
    rw [join_len]
    have h1 := lens_take_le l_4 i
    have h2 := mul_le drop_3.length ((l_4.take i).length - 1) hs (by rw [List.length_take]; omega)
    omega
  refine Tot.ite (fun q => ?_) (fun q => ?_)
  · obtain ⟨q1, q2⟩ := Bool.and_eq_true_iff.1 q
    have q1 : i < l_4.length := by have : ((i : Nat) : Int) < (l_4.length : Int) := of_decide_eq_true q1; omega
    have q2 : (Lib.join (l_4.take i) drop_3).length ≤ 4000 := by have : (((Lib.join (l_4.take i) drop_3).length : Nat) : Int) ≤ 4000 := of_decide_eq_true q2; omega
    have hel : l_4[i].length ≤ 1048576 := by
      have h1 := lens_take_succ l_4 i l_4[i] (List.getElem?_eq_getElem q1)
      have h2 := lens_take_le l_4 (i + 1)
      omega
    refine Tot.bindq (P := fun j => j ++ l_4[i] = Lib.join (l_4.take (i + 1)) drop_3 ∧ j.length ≤ 1052576) ?_ fun j ⟨hj, hj2⟩ => ?_
    · rw [take_snoc q1]
      refine Tot.ite (fun o => ?_) (fun o => ?_)
      · have o : ((i : Nat) : Int) > 0 := of_decide_eq_true o
        have hne : l_4.take i ≠ [] := fun e => by
          have := congrArg List.length e
          rw [List.length_take, List.length_nil] at this; omega
        refine Tot.bind0 (app_ok (by omega)) (Tot.ret ⟨?_, by rw [List.length_append]; omega⟩)
        rw [join_snoc hne]
      · have o : ¬ ((i : Nat) : Int) > 0 := of_decide_eq_false o
        have : i = 0 := by omega
        subst this
        refine Tot.ret ⟨?_, by omega⟩
        show Lib.join [] drop_3 ++ _ = Lib.join ([] ++ [_]) drop_3
        rw [List.nil_append, join_one]; rfl
    · refine Tot.bind0 (idx_nat q1) (Tot.bind0 (app_ok (by omega)) (Tot.ret ⟨⟨i + 1, iw (by omega) (by omega), q1, hj⟩, ?_⟩))
      show l_4.length - (IntKind.i64.wrap ((i : Int) + 1)).toNat < l_4.length - ((i : Nat) : Int).toNat
      rw [iw (n := i + 1) (by omega) (by omega)]; omega
  · refine Tot.ret ?_
    by_cases h : i = l_4.length
    · subst h
      exact .inl (by rw [List.take_length])
    · have h4 : 4000 < (Lib.join (l_4.take i) drop_3).length := Nat.lt_of_not_le fun h' => by
        rw [decide_eq_true (by omega : ((i : Nat) : Int) < (l_4.length : Int)), decide_eq_true (by omega : (((Lib.join (l_4.take i) drop_3).length : Nat) : Int) ≤ 4000)] at q; cases q
      refine .inr ⟨h4, ?_⟩
      have h1 := lens_take_le l_4 i
      rw [join_len] at h4 ⊢
      have : drop_3.length * ((l_4.take i).length - 1) ≤ drop_3.length * (l_4.length - 1) := Nat.mul_le_mul_left _ (by rw [List.length_take]; omega)
      omega

/-! ### translating -/
theorem mget_put (m : List (Int × Int)) (k v x : Int) : mget (mput m k v) x = if k = x then some v else mget m x := by
  induction m with
  | nil =>
    show (if (k == x) = true then some v else none) = _
    by_cases h : k = x
    · rw [if_pos h, if_pos (beq_iff_eq.2 h)]
    · rw [if_neg h, if_neg (by rw [beq_eq_false_iff_ne.2 h]; simp)]; rfl
  | cons p m ih =>
    by_cases hp : p.1 = k
    · have e : mput (p :: m) k v = (k, v) :: m := by
        show (if (p.1 == k) = true then _ else _) = _
        rw [if_pos (beq_iff_eq.2 hp)]
      rw [e]
      show (if (k == x) = true then some v else mget m x) = _
      by_cases h : k = x
      · rw [if_pos h, if_pos (beq_iff_eq.2 h)]
      · rw [if_neg h, if_neg (by rw [beq_eq_false_iff_ne.2 h]; simp)]
        show _ = (if (p.1 == x) = true then some p.2 else mget m x)
        rw [if_neg (by rw [beq_eq_false_iff_ne.2 (by rw [hp]; exact h)]; simp)]
    · have e : mput (p :: m) k v = p :: mput m k v := by
        show (if (p.1 == k) = true then _ else _) = _
        rw [if_neg (by rw [beq_eq_false_iff_ne.2 hp]; simp)]
      rw [e]
      show (if (p.1 == x) = true then some p.2 else mget (mput m k v) x) = _
      rw [ih]
      show _ = if k = x then some v else (if (p.1 == x) = true then some p.2 else mget m x)
      by_cases h : k = x
      · rw [if_pos h, if_neg (by rw [beq_eq_false_iff_ne.2 (by rw [← h]; exact hp)]; simp)]
        rw [if_pos h]
      · rw [if_neg h, if_neg h]
def Dup (l : List UInt8) (i : Nat) : Prop := ∃ h : i < l.length, ix l l[i] < (i : Int)
theorem dup_iff {l : List UInt8} {i : Nat} (h : i < l.length) : Dup l i ↔ ∃ k, k < i ∧ l[k]? = some l[i] := by
  constructor
  · rintro ⟨_, h2⟩
    rcases ix_cases l l[i] with ⟨e, g⟩ | ⟨k, k1, k2, k3, k4⟩
    · exact absurd (List.getElem?_eq_getElem h) (g i h)
    · exact ⟨k, by omega, k3⟩
  · rintro ⟨k, k1, k2⟩
    refine ⟨h, ?_⟩
    rcases ix_cases l l[i] with ⟨e, g⟩ | ⟨k', k1', k2', k3', k4'⟩
    · exact absurd (List.getElem?_eq_getElem h) (g i h)
    · rcases Nat.lt_or_ge k k' with g | g
      · exact absurd k2 (k4' k g)
      · omega
def outT (f t d : List UInt8) (x : UInt8) : List UInt8 := if 0 ≤ ix d x then [] else if 0 ≤ ix f x then [t.getD (ix f x).toNat 0] else [x]
theorem outT_len (f t d : List UInt8) (l : List UInt8) : (l.flatMap (outT f t d)).length ≤ l.length := by
  induction l with
  | nil => simp
  | cons x l ih =>
    have : (outT f t d x).length ≤ 1 := by unfold outT; repeat' split <;> simp
    rw [List.flatMap_cons, List.length_append, List.length_cons]; omega
def TrQ (b f t d : List UInt8) (r : List UInt8 × Int × Int) : Prop :=
  if 4000 < b.length then r = ([], (3, -1)) else if f.length ≠ t.length then r = ([], (9, -3)) else
    (∃ i, Dup f i ∧ (∀ j, j < i → ¬ Dup f j) ∧ r = ([], (8, (i : Int)))) ∨ ((∀ j, ¬ Dup f j) ∧ r = (b.flatMap (outT f t d), (0, 0)))
theorem Translate_tot {b f t d : List UInt8} (hb : b.length ≤ 1048576) (hf : f.length ≤ 1048576) (ht : t.length ≤ 1048576) : Tot (fun fuel => bytestr_Translate fuel b f t d) (fun r => TrQ b f t d r) := by
  unfold bytestr_Translate
  refine Tot.bindq (check_tot b hb) fun r hr => ?_
  by_cases h4 : 4000 < b.length
  · rw [if_pos h4] at hr
    subst hr
    refine Tot.it rfl (Tot.ret ?_)
    unfold TrQ
    rw [if_pos h4]
  rw [if_neg h4] at hr
  subst hr
  refine Tot.if_ rfl (Tot.ite (fun g => ?_) (fun g => ?_))
  · have g := bne_iff_ne.1 g
    refine Tot.bindq (bytestr_at_tot 9 (-3)) fun r hr => Tot.ret ?_
    subst hr
    unfold TrQ
    rw [if_neg h4, if_pos (by omega)]
  have g : f.length = t.length := by
    have : ((f.length : Nat) : Int) = ((t.length : Nat) : Int) := by simpa using g
    omega
  refine Tot.mono (Q := fun r => (∃ i, Dup f i ∧ (∀ j, j < i → ¬ Dup f j) ∧ r = ([], (8, (i : Int)))) ∨ ((∀ j, ¬ Dup f j) ∧ r = (b.flatMap (outT f t d), (0, 0)))) ?_ fun r hr => by unfold TrQ; rw [if_neg h4, if_neg (by omega)]; exact hr
  refine Tot.bindq (P := fun r => (∃ i, Dup f i ∧ (∀ j, j < i → ¬ Dup f j) ∧ r = .inr ([], (8, (i : Int)))) ∨ ∃ m, (∀ j, ¬ Dup f j) ∧ (∀ x : UInt8, ix f x = -1 → mget m (x.toNat : Int) = none) ∧ (∀ k (hk : k < f.length), mget m (f[k].toNat : Int) = some (((t.getD k 0).toNat : Nat) : Int)) ∧ r = .inl ((0, 0), m)) ?_ fun r hr => ?_
  · refine Tot.loop (fun st => ∃ i : Nat, st.1 = (i : Int) ∧ i ≤ f.length ∧ st.2.1 = (0, 0) ∧ (∀ j, j < i → ¬ Dup f j) ∧ (∀ x : UInt8, (∀ k, k < i → f[k]? ≠ some x) → mget st.2.2 (x.toNat : Int) = none) ∧ (∀ k (hk : k < f.length), k < i → mget st.2.2 (f[k].toNat : Int) = some (((t.getD k 0).toNat : Nat) : Int))) (fun st => f.length - st.1.toNat) ⟨0, rfl, by omega, rfl, fun j h => absurd h (by omega), fun x _ => rfl, fun k _ h => absurd h (by omega)⟩ fun st ⟨i, e, hi, e2, h1, h2, h3⟩ => ?_
    obtain ⟨q, w, m⟩ := st
    simp only at e e2 h2 h3
    subst e e2
    dsimp only
    refine Tot.ite (fun q => ?_) (fun q => ?_)
    · have q : i < f.length := by have : ((i : Nat) : Int) < (f.length : Int) := of_decide_eq_true q; omega
      refine Tot.bind0 (idx_nat q) (Tot.ite (fun w => ?_) (fun w => ?_))
      · have hd : Dup f i := (dup_iff q).2 (Classical.byContradiction fun hn => by
          have := h2 f[i] fun k hk e => hn ⟨k, hk, e⟩
          unfold mhas at w
          rw [this] at w; cases w)
        refine Tot.bindq (bytestr_at_tot 8 _) fun r hr => Tot.ret (.inl ⟨i, hd, h1, ?_⟩)
        subst hr; rfl
      · have hd : ¬ Dup f i := fun hd => by
          obtain ⟨k, hk, e⟩ := (dup_iff q).1 hd
          have hkl : k < f.length := by omega
          have e2 : f[k] = f[i] := by rw [List.getElem?_eq_getElem hkl] at e; exact Option.some.inj e
          have := h3 k hkl hk
          unfold mhas at w
          rw [← e2, this] at w; cases w
        have hit : i < t.length := by omega
        have htd : t.getD i 0 = t[i] := by simp [hit]
        refine Tot.bind0 (idx_nat hit) (Tot.ret ⟨⟨i + 1, iw (by omega) (by omega), q, rfl, fun j hj => ?_, fun x hx => ?_, fun k hk hki => ?_⟩, ?_⟩)
        · rcases (by omega : j < i ∨ j = i) with h' | h'
          · exact h1 j h'
          · subst h'; exact hd
        · show mget (mput m _ _) _ = none
          rw [mget_put, if_neg (fun e => hx i (by omega) (by rw [List.getElem?_eq_getElem q]; exact congrArg some (UInt8.toNat.inj (by omega)))), h2 x fun k hk => hx k (by omega)]
        · show mget (mput m _ _) _ = _
          rw [mget_put]
          by_cases e : f[i] = f[k]
          · rw [if_pos (by rw [e])]
            have : k = i := by
              rcases (by omega : k < i ∨ k = i) with h' | h'
              · exact absurd ((dup_iff q).2 ⟨k, h', by rw [List.getElem?_eq_getElem hk, e]⟩) hd
              · exact h'
            subst this
            rw [htd]
          · rw [if_neg (fun h => e (UInt8.toNat.inj (by omega)))]
            rcases (by omega : k < i ∨ k = i) with h' | h'
            · exact h3 k hk h'
            · subst h'; exact absurd rfl e
        · show f.length - (IntKind.i64.wrap ((i : Int) + 1)).toNat < f.length - ((i : Nat) : Int).toNat
          rw [iw (n := i + 1) (by omega) (by omega)]; omega
    · have q : i = f.length := by have : ¬ ((i : Nat) : Int) < (f.length : Int) := of_decide_eq_false q; omega
      subst q
      refine Tot.ret (.inr ⟨m, fun j hd => ?_, fun x hx => h2 x fun k hk e => ?_, fun k hk => h3 k hk hk, rfl⟩)
      · exact h1 j hd.1 hd
      · rcases ix_cases f x with ⟨_, g⟩ | ⟨i', _, g2, _, _⟩
        · exact g k hk e
        · omega
  · rcases hr with ⟨i, h1, h2, e⟩ | ⟨m, h1, h2, h3, e⟩
    · subst e
      exact Tot.contr (.inl ⟨i, h1, h2, rfl⟩)
    · subst e
      refine Tot.contl (Tot.bindq (P := fun r => r = b.flatMap (outT f t d)) ?_ fun r hr => Tot.ret (.inr ⟨h1, by rw [hr]⟩))
      refine Tot.loop (fun st => ∃ i : Nat, st.2 = (i : Int) ∧ i ≤ b.length ∧ st.1 = (b.take i).flatMap (outT f t d)) (fun st => b.length - st.2.toNat) ⟨0, rfl, by omega, rfl⟩ fun st ⟨i, e, hi, g⟩ => ?_
      obtain ⟨out, q⟩ := st
      simp only at e g
      subst e g
      dsimp only
      refine Tot.ite (fun q => ?_) (fun q => ?_)
      · have q : i < b.length := by have : ((i : Nat) : Int) < (b.length : Int) := of_decide_eq_true q; omega
        have hlen := outT_len f t d (b.take i)
        rw [List.length_take] at hlen
        refine Tot.bindq (P := fun r => r = (b.take (i + 1)).flatMap (outT f t d)) ?_ fun r hr => ?_
        · rw [take_snoc q, List.flatMap_append]
          simp only [List.flatMap_cons, List.flatMap_nil, List.append_nil]
          refine Tot.bind0 (idx_nat q) (Tot.bindq (P := fun r => r = ix d b[i]) (by unfold bytes_IndexByte; exact Tot.ret (nIdx_ix _ _)) fun r hr => ?_)
          subst hr
          refine Tot.ite (fun o => ?_) (fun o => ?_)
          · have o : ix d b[i] ≥ 0 := of_decide_eq_true o
            exact Tot.ret (by unfold outT; rw [if_pos o, List.append_nil])
          have o : ¬ ix d b[i] ≥ 0 := of_decide_eq_false o
          rcases ix_cases f b[i] with ⟨e, _⟩ | ⟨k, k1, k2, k3, k4⟩
          · have hm := h2 _ e
            refine Tot.bindq (P := fun j => j = ((b[i].toNat : Nat) : Int)) (Tot.if_ (by unfold mhas; rw [hm]; rfl) (Tot.ret rfl)) fun j hj => ?_
            subst hj
            refine Tot.bind0 (u8_byte _) (Tot.bind0 (app_ok (by simp only [List.length_cons, List.length_nil]; omega)) (Tot.ret ?_))
            unfold outT
            rw [if_neg o, if_neg (by omega)]
          · have hk : f[k] = b[i] := by rw [List.getElem?_eq_getElem k1] at k3; exact Option.some.inj k3
            have hm := h3 k k1
            rw [hk] at hm
            refine Tot.bindq (P := fun j => j = (((t.getD k 0).toNat : Nat) : Int)) (Tot.it (by unfold mhas; rw [hm]; rfl) (Tot.ret (by unfold mgetD; rw [hm]; rfl))) fun j hj => ?_
            subst hj
            refine Tot.bind0 (u8_byte _) (Tot.bind0 (app_ok (by simp only [List.length_cons, List.length_nil]; omega)) (Tot.ret ?_))
            unfold outT
            rw [if_neg o, if_pos (by omega), k2, Int.toNat_natCast]
        · subst hr
          refine Tot.ret ⟨⟨i + 1, iw (by omega) (by omega), q, rfl⟩, ?_⟩
          show b.length - (IntKind.i64.wrap ((i : Int) + 1)).toNat < b.length - ((i : Nat) : Int).toNat
          rw [iw (n := i + 1) (by omega) (by omega)]; omega
      · have q : i = b.length := by have : ¬ ((i : Nat) : Int) < (b.length : Int) := of_decide_eq_false q; omega
        subst q
        exact Tot.ret (by rw [List.take_length])
theorem Translates_tot {b f t d : List UInt8} {l : List (List UInt8)} (hb : b.length ≤ 1048576) (hf : f.length ≤ 1048576) (ht : t.length ≤ 1048576) (hd : d.length ≤ 1048576) (hl : l.length ≤ 1048576) (hn : lens l ≤ 1048576) : Tot (fun fuel => law4_BytestrTranslates fuel b f t d l) (fun r => r = true) := by
  unfold law4_BytestrTranslates
  refine Tot.bindq (Translate_tot hb hf ht) fun r hr => Tot.bindq (Join_tot hl hd hn) fun q hq => Tot.bindq bytesOf_tot fun x hx => ?_
  subst hx
  refine Tot.if_ rfl (Tot.bindq (lawJoin_tot hl hd hn) fun j hj => ?_)
  refine Tot.bindq (P := fun w => (q.2, q.1) = if w.1 ≠ 0 then (w, []) else (w, j)) ?_ fun w hw => ?_
  · refine Tot.ite (fun o => ?_) (fun o => ?_)
    · have o : ((j.length : Nat) : Int) > 4000 := of_decide_eq_true o
      refine Tot.bindq (at_tot 3 (-1)) fun y hy => Tot.ret ?_
      subst hy
      have h4 : 4000 < (Lib.join l d).length := by
        rcases hj with e | ⟨_, e⟩
        · rw [← e]; omega
        · exact e
      rw [hq, if_pos h4]; rfl
    · have o : ¬ ((j.length : Nat) : Int) > 4000 := of_decide_eq_false o
      have e : j = Lib.join l d := by
        rcases hj with e | ⟨e, _⟩
        · exact e
        · omega
      refine Tot.ret ?_
      rw [hq, ← e, if_neg (by omega)]; rfl
  refine Tot.bindq (raw_tot hw) fun x hx => ?_
  subst hx
  refine Tot.if_ rfl (Tot.some_bind ?_)
  unfold TrQ at hr
  refine Tot.bindq (P := fun w => w = if 4000 < b.length then (3, -1) else if f.length ≠ t.length then (9, -3) else (0, 0)) ?_ fun w hw => ?_
  · refine Tot.ite (fun o => ?_) (fun o => ?_)
    · have o : ((b.length : Nat) : Int) > 4000 := of_decide_eq_true o
      exact Tot.bindq (at_tot 3 (-1)) fun y hy => Tot.ret (by rw [hy, if_pos (by omega)])
    · have o : ¬ ((b.length : Nat) : Int) > 4000 := of_decide_eq_false o
      refine Tot.some_bind (Tot.ite (fun p => ?_) (fun p => ?_))
      · have p := bne_iff_ne.1 p
        exact Tot.bindq (at_tot 9 (-3)) fun y hy => Tot.ret (by rw [hy, if_neg (by omega), if_pos (by omega)])
      · have p : f.length = t.length := by
          have : ((f.length : Nat) : Int) = ((t.length : Nat) : Int) := by simpa using p
          omega
        exact Tot.ret (by rw [if_neg (by omega), if_neg (by omega)])
  by_cases hok : ¬ 4000 < b.length ∧ f.length = t.length
  rotate_left
  · -- refused ahead of the table
    have hw0 : w.1 ≠ 0 ∧ r = ([], w) := by
      by_cases h4 : 4000 < b.length
      · rw [if_pos h4] at hw hr; subst hw; exact ⟨by decide, hr⟩
      · rw [if_neg h4] at hw hr
        have : f.length ≠ t.length := fun e => hok ⟨h4, e⟩
        rw [if_pos this] at hw hr; subst hw; exact ⟨by decide, hr⟩
    obtain ⟨w0, hr0⟩ := hw0
    refine Tot.bindq (P := fun j => j = w) ?_ fun j hj => ?_
    · refine Tot.loop (fun st => st = (0, w)) (fun _ => 0) rfl fun st e => ?_
      subst e
      refine Tot.bindq (P := fun j => j = false) (Tot.ite (fun _ => Tot.ret (beq_eq_false_iff_ne.2 w0)) (fun _ => Tot.ret rfl)) fun j hj => ?_
      subst hj
      exact Tot.if_ rfl (Tot.ret rfl)
    subst hj
    refine Tot.bindq (P := fun x => x = []) ?_ fun x hx => ?_
    · refine Tot.loop (fun st => st = ([], 0)) (fun _ => 0) rfl fun st e => ?_
      subst e
      refine Tot.bindq (P := fun j => j = false) (Tot.ite (fun _ => Tot.ret (beq_eq_false_iff_ne.2 w0)) (fun _ => Tot.ret rfl)) fun j hj => ?_
      subst hj
      exact Tot.if_ rfl (Tot.ret rfl)
    refine Tot.bindq (raw_tot ?_) fun y hy => Tot.ret hy
    rw [hr0, if_pos w0]
  obtain ⟨h4, hft⟩ := hok
  rw [if_neg h4, if_neg (by omega)] at hr hw
  subst hw
  refine Tot.bindq (P := fun w => (∃ i, Dup f i ∧ (∀ j, j < i → ¬ Dup f j) ∧ w = (8, (i : Int))) ∨ ((∀ j, ¬ Dup f j) ∧ w = (0, 0))) ?_ fun w hw => ?_
  · refine Tot.loop (fun st => ∃ i : Nat, st.1 = (i : Int) ∧ i ≤ f.length ∧ ((st.2 = (0, 0) ∧ ∀ j, j < i → ¬ Dup f j) ∨ ∃ k, Dup f k ∧ (∀ j, j < k → ¬ Dup f j) ∧ st.2 = (8, (k : Int)))) (fun st => f.length - st.1.toNat) ⟨0, rfl, by omega, .inl ⟨rfl, fun j h => absurd h (by omega)⟩⟩ fun st ⟨i, e, hi, hst⟩ => ?_
    obtain ⟨q, w⟩ := st
    simp only at e hst
    subst e
    dsimp only
    rcases hst with ⟨e, h1⟩ | ⟨k, k1, k2, e⟩
    · subst e
      refine Tot.bindq (P := fun j => j = decide (i < f.length)) ?_ fun j hj => ?_
      · refine Tot.ite (fun o => ?_) (fun o => ?_)
        · have o : ((i : Nat) : Int) < (f.length : Int) := of_decide_eq_true o
          exact Tot.ret (by rw [decide_eq_true (by omega : i < f.length)]; rfl)
        · have o : ¬ ((i : Nat) : Int) < (f.length : Int) := of_decide_eq_false o
          exact Tot.ret (decide_eq_false (by omega)).symm
      subst hj
      refine Tot.ite (fun o => ?_) (fun o => ?_)
      · have o := of_decide_eq_true o
        have hw : IntKind.i64.wrap ((i : Int) + 1) = ((i + 1 : Nat) : Int) := iw (by omega) (by omega)
        rw [hw]
        refine Tot.bind0 (idx_nat o) (Tot.bindq (lawIx_tot (by omega) _) fun z hz => ?_)
        subst hz
        refine Tot.bindq (P := fun j => (Dup f i ∧ j = (8, (i : Int))) ∨ (¬ Dup f i ∧ j = (0, 0))) ?_ fun j hj => ?_
        · refine Tot.ite (fun p => ?_) (fun p => ?_)
          · have p : ix f f[i] < (i : Int) := of_decide_eq_true p
            exact Tot.bindq (at_tot 8 _) fun y hy => Tot.ret (.inl ⟨⟨o, p⟩, by rw [hy]⟩)
          · have p : ¬ ix f f[i] < (i : Int) := of_decide_eq_false p
            exact Tot.ret (.inr ⟨fun ⟨_, h⟩ => p h, rfl⟩)
        · refine Tot.ret ⟨⟨i + 1, rfl, o, ?_⟩, ?_⟩
          · rcases hj with ⟨j1, j2⟩ | ⟨j1, j2⟩
            · exact .inr ⟨i, j1, h1, by rw [j2]⟩
            · refine .inl ⟨by rw [j2], fun j hj => ?_⟩
              rcases (by omega : j < i ∨ j = i) with h' | h'
              · exact h1 j h'
              · subst h'; exact j1
          · show f.length - ((i + 1 : Nat) : Int).toNat < f.length - ((i : Nat) : Int).toNat
            omega
      · have o : i = f.length := by have := of_decide_eq_false o; omega
        subst o
        exact Tot.ret (.inr ⟨fun j hj => h1 j hj.1 hj, rfl⟩)
    · subst e
      refine Tot.bindq (P := fun j => j = false) (Tot.ite (fun _ => Tot.ret rfl) (fun _ => Tot.ret rfl)) fun j hj => ?_
      subst hj
      exact Tot.if_ rfl (Tot.ret (.inl ⟨k, k1, k2, rfl⟩))
  rcases hw with ⟨i, i1, i2, e⟩ | ⟨i1, e⟩
  · subst e
    have hr0 : r = ([], (8, (i : Int))) := by
      rcases hr with ⟨k, k1, k2, k3⟩ | ⟨k1, _⟩
      · have : i = k := by
          rcases Nat.lt_trichotomy i k with h | h | h
          · exact absurd i1 (k2 i h)
          · exact h
          · exact absurd k1 (i2 k h)
        subst this; exact k3
      · exact absurd i1 (k1 i)
    refine Tot.bindq (P := fun x => x = []) ?_ fun x hx => ?_
    · refine Tot.loop (fun st => st = ([], 0)) (fun _ => 0) rfl fun st e => ?_
      subst e
      refine Tot.bindq (P := fun j => j = false) (Tot.ite (fun _ => Tot.ret rfl) (fun _ => Tot.ret rfl)) fun j hj => ?_
      subst hj
      exact Tot.if_ rfl (Tot.ret rfl)
    refine Tot.bindq (raw_tot ?_) fun y hy => Tot.ret hy
    rw [hr0]; rfl
  · subst e
    have hr0 : r = (b.flatMap (outT f t d), (0, 0)) := by
      rcases hr with ⟨k, k1, _, _⟩ | ⟨_, h⟩
      · exact absurd k1 (i1 k)
      · exact h
    refine Tot.bindq (P := fun x => x = b.flatMap (outT f t d)) ?_ fun x hx => ?_
    · refine Tot.loop (fun st => ∃ i : Nat, st.2 = (i : Int) ∧ i ≤ b.length ∧ st.1 = (b.take i).flatMap (outT f t d)) (fun st => b.length - st.2.toNat) ⟨0, rfl, by omega, rfl⟩ fun st ⟨i, e, hi, g⟩ => ?_
      obtain ⟨out, q⟩ := st
      simp only at e g
      subst e g
      dsimp only
      refine Tot.bindq (P := fun j => j = decide (i < b.length)) ?_ fun j hj => ?_
      · refine Tot.ite (fun o => ?_) (fun o => ?_)
        · have o : ((i : Nat) : Int) < (b.length : Int) := of_decide_eq_true o
          exact Tot.ret (by rw [decide_eq_true (by omega : i < b.length)]; rfl)
        · have o : ¬ ((i : Nat) : Int) < (b.length : Int) := of_decide_eq_false o
          exact Tot.ret (decide_eq_false (by omega)).symm
      subst hj
      refine Tot.ite (fun o => ?_) (fun o => ?_)
      · have o := of_decide_eq_true o
        have hlen := outT_len f t d (b.take i)
        rw [List.length_take] at hlen
        have hw : IntKind.i64.wrap ((i : Int) + 1) = ((i + 1 : Nat) : Int) := iw (by omega) (by omega)
        rw [hw]
        refine Tot.bind0 (idx_nat o) (Tot.bindq (lawIx_tot (by omega) _) fun z hz => Tot.bind0 (idx_nat o) (Tot.bindq (lawIx_tot (by omega) _) fun z' hz' => ?_))
        subst hz hz'
        refine Tot.bindq (P := fun x => x = (b.take (i + 1)).flatMap (outT f t d)) ?_ fun x hx => ?_
        · rw [take_snoc o, List.flatMap_append]
          simp only [List.flatMap_cons, List.flatMap_nil, List.append_nil]
          refine Tot.ite (fun p => ?_) (fun p => ?_)
          · have p : ix d b[i] ≥ 0 := of_decide_eq_true p
            exact Tot.ret (by unfold outT; rw [if_pos p, List.append_nil])
          have p : ¬ ix d b[i] ≥ 0 := of_decide_eq_false p
          refine Tot.ite (fun s => ?_) (fun s => ?_)
          · have s : ix f b[i] ≥ 0 := of_decide_eq_true s
            rcases ix_cases f b[i] with ⟨e, _⟩ | ⟨k, k1, k2, k3, k4⟩
            · omega
            have hk : k < t.length := by omega
            rw [k2]
            refine Tot.bind0 (idx_nat hk) (Tot.bind0 (app_ok (by simp only [List.length_cons, List.length_nil]; omega)) (Tot.ret ?_))
            unfold outT
            rw [if_neg p, if_pos s, k2, Int.toNat_natCast]
            simp [hk]
          · have s : ¬ ix f b[i] ≥ 0 := of_decide_eq_false s
            refine Tot.bind0 (idx_nat o) (Tot.bind0 (app_ok (by simp only [List.length_cons, List.length_nil]; omega)) (Tot.ret ?_))
            unfold outT
            rw [if_neg p, if_neg s]
        · subst hx
          refine Tot.ret ⟨⟨i + 1, rfl, o, rfl⟩, ?_⟩
          show b.length - ((i + 1 : Nat) : Int).toNat < b.length - ((i : Nat) : Int).toNat
          omega
      · have o : i = b.length := by have := of_decide_eq_false o; omega
        subst o
        exact Tot.ret (by rw [List.take_length])
    refine Tot.bindq (raw_tot ?_) fun y hy => Tot.ret hy
    rw [hr0, hx]; rfl
theorem sumL_eq {α : Type} (l : List α) : sumL (fun _ => 1) l = l.length + 1 := by
  unfold sumL
  induction l with
  | nil => rfl
  | cons x l ih => simp only [List.map_cons, List.sum_cons, List.length_cons] at ih ⊢; omega
theorem sumL_lens (l : List (List UInt8)) : l.length + lens l ≤ sumL (sumL fun _ => 1) l := by
  unfold sumL
  induction l with
  | nil => simp [lens]
  | cons x l ih =>
    have := sumL_eq x
    unfold sumL at this
    simp only [lens, List.map_cons, List.sum_cons, List.length_cons] at ih ⊢
    omega
theorem BytestrTranslates_said (b f t d : List UInt8) (l : List (List UInt8)) (_ : (∀ x ∈ b, (fun _ => True) x) ∧ b.length ≤ maxLen) (_ : (∀ x ∈ f, (fun _ => True) x) ∧ f.length ≤ maxLen) (_ : (∀ x ∈ t, (fun _ => True) x) ∧ t.length ≤ maxLen) (_ : (∀ x ∈ d, (fun _ => True) x) ∧ d.length ≤ maxLen) (_ : (∀ y ∈ l, (fun xs => (∀ x ∈ xs, (fun _ => True) x) ∧ xs.length ≤ maxLen) y) ∧ l.length ≤ maxLen)
    (h : sumL (fun _ => 1) b + (sumL (fun _ => 1) f + (sumL (fun _ => 1) t + (sumL (fun _ => 1) d + sumL (sumL fun _ => 1) l))) ≤ 1048576) : Tot (fun n => law4_BytestrTranslates n b f t d l) (· = true) := by
  have h1 := sumL_one b
  have h2 := sumL_one f
  have h3 := sumL_one t
  have h4 := sumL_one d
  have h5 := sumL_lens l
  exact Translates_tot (by omega) (by omega) (by omega) (by omega) (by omega) (by omega)
end Go.Gv.R
