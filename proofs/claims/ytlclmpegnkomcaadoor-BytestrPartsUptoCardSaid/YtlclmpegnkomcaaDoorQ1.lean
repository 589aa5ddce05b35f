import Derived.Test.YtlclmpegnkomcaaDoorM1
import Derived.Lib.LastIndexLaws
import Derived.Lib.Split
set_option linter.all false
namespace Go.Gv.R
open Go Go.Gv Go.Gv.D Go.Lib

/-! letters: small and capital -/
def S32 (c : Nat) : Prop := (97 ≤ c ∧ c ≤ 122) ∨ (224 ≤ c ∧ c ≤ 246) ∨ (248 ≤ c ∧ c ≤ 254) ∨ (945 ≤ c ∧ c ≤ 961) ∨ (963 ≤ c ∧ c ≤ 969) ∨ (1072 ≤ c ∧ c ≤ 1103)
def C32 (c : Nat) : Prop := (65 ≤ c ∧ c ≤ 90) ∨ (192 ≤ c ∧ c ≤ 214) ∨ (216 ≤ c ∧ c ≤ 222) ∨ (913 ≤ c ∧ c ≤ 929) ∨ (931 ≤ c ∧ c ≤ 937) ∨ (1040 ≤ c ∧ c ≤ 1071)
instance (c : Nat) : Decidable (S32 c) := by unfold S32; exact inferInstance
instance (c : Nat) : Decidable (C32 c) := by unfold C32; exact inferInstance

/-! first occurrences -/
def firstOcc (q : List Nat) : List Nat → Option Nat
  | [] => if q = [] then some 0 else none
  | c :: p => if q.isPrefixOf (c :: p) = true then some 0 else (firstOcc q p).map (· + 1)
theorem prefix_split {q p : List Nat} (h : q.isPrefixOf p = true) : ∃ b, p = q ++ b := by
  obtain ⟨b, hb⟩ := List.isPrefixOf_iff_prefix.1 h
  exact ⟨b, hb.symm⟩
theorem prefix_app (q b : List Nat) : q.isPrefixOf (q ++ b) = true := List.isPrefixOf_iff_prefix.2 ⟨b, rfl⟩
theorem firstOcc_some {q : List Nat} : ∀ {p : List Nat} {i : Nat}, firstOcc q p = some i → (∃ b, p = p.take i ++ q ++ b) ∧ i ≤ p.length ∧ ∀ a' b', p = a' ++ q ++ b' → i ≤ a'.length
  | [], i, h => by
    unfold firstOcc at h
    by_cases hq : q = []
    · rw [if_pos hq] at h; cases h
      exact ⟨⟨[], by simp [hq]⟩, Nat.le_refl _, fun _ _ _ => Nat.zero_le _⟩
    · rw [if_neg hq] at h; cases h
  | c :: p, i, h => by
    unfold firstOcc at h
    by_cases hp : q.isPrefixOf (c :: p) = true
    · rw [if_pos hp] at h; cases h
      obtain ⟨b, hb⟩ := prefix_split hp
      exact ⟨⟨b, by simpa using hb⟩, Nat.zero_le _, fun _ _ _ => Nat.zero_le _⟩
    · rw [if_neg hp] at h
      cases hf : firstOcc q p with
      | none => rw [hf] at h; cases h
      | some j =>
        rw [hf] at h; cases h
        obtain ⟨⟨b, hb⟩, hl, hm⟩ := firstOcc_some hf
        refine ⟨⟨b, ?_⟩, by simp; omega, fun a' b' e => ?_⟩
        · rw [List.take_succ_cons, List.cons_append, List.cons_append, ← hb]
        · cases a' with
          | nil => exact absurd (by rw [e]; exact prefix_app q b') hp
          | cons x a' =>
            rw [List.cons_append, List.cons_append] at e
            injection e with e1 e2
            have := hm a' b' e2
            simp; omega
theorem occ_parts {q p : List Nat} {i : Nat} (h : firstOcc q p = some i) : p = p.take i ++ q ++ p.drop (i + q.length) ∧ i + q.length ≤ p.length := by
  obtain ⟨⟨b, hb⟩, hl, _⟩ := firstOcc_some h
  have hlen : i + q.length + b.length = p.length := by
    have := congrArg List.length hb
    rw [List.length_append, List.length_append, List.length_take] at this; omega
  have hd : p.drop (i + q.length) = b := by
    rw [hb]
    have : (p.take i ++ q).length = i + q.length := by rw [List.length_append, List.length_take]; omega
    rw [← this, List.drop_left]
  exact ⟨by rw [hd]; exact hb, by omega⟩
/-! the parts between occurrences, at most k of them cut off -/
/-- where they are cut -/
def cutsK (q : List Nat) : Nat → List Nat → Nat → List Nat
  | 0, _, _ => []
  | k + 1, p, o => match firstOcc q p with
    | none => []
    | some i => (o + i) :: cutsK q k (p.drop (i + q.length)) (o + i + q.length)
theorem cutsK_none {q p : List Nat} {k o : Nat} (h : firstOcc q p = none) : cutsK q k p o = [] := by
  cases k with
  | zero => rfl
  | succ k => unfold cutsK; rw [h]
theorem cutsK_some {q p : List Nat} {k o i : Nat} (h : firstOcc q p = some i) : cutsK q (k + 1) p o = (o + i) :: cutsK q k (p.drop (i + q.length)) (o + i + q.length) := by
  show (match firstOcc q p with | none => [] | some i => (o + i) :: cutsK q k (p.drop (i + q.length)) (o + i + q.length)) = _
  rw [h]
theorem cuts_le {q : List Nat} (hne : q ≠ []) : ∀ (k : Nat) (p : List Nat) (o : Nat), (cutsK q k p o).length ≤ k ∧ (cutsK q k p o).length ≤ p.length
  | 0, _, _ => ⟨Nat.le_refl _, Nat.zero_le _⟩
  | k + 1, p, o => by
    cases h : firstOcc q p with
    | none => rw [cutsK_none h]; exact ⟨Nat.zero_le _, Nat.zero_le _⟩
    | some i =>
      rw [cutsK_some h, List.length_cons]
      have := cuts_le hne k (p.drop (i + q.length)) (o + i + q.length)
      have h2 := (occ_parts h).2
      have h3 := List.length_pos_iff.2 hne
      rw [List.length_drop] at this
      omega
theorem cuts_more {q : List Nat} (hne : q ≠ []) : ∀ (k p) (l o : Nat), p.length ≤ k → k ≤ l → cutsK q l p o = cutsK q k p o
  | 0, p, l, o, h, _ => by
    have : p = [] := List.eq_nil_of_length_eq_zero (by omega)
    subst this
    have hf : firstOcc q [] = none := by unfold firstOcc; rw [if_neg hne]
    rw [cutsK_none hf]; rfl
  | k + 1, p, l, o, h, hl => by
    obtain ⟨l, rfl⟩ : ∃ m, l = m + 1 := ⟨l - 1, by omega⟩
    cases hf : firstOcc q p with
    | none => rw [cutsK_none hf, cutsK_none hf]
    | some i =>
      have h2 := (occ_parts hf).2
      have h3 := List.length_pos_iff.2 hne
      rw [cutsK_some hf, cutsK_some hf, cuts_more hne k _ l _ (by rw [List.length_drop]; omega) (by omega)]
/-- the first cuts are the cuts of fewer -/
theorem cuts_take {q : List Nat} : ∀ (k m : Nat) (p : List Nat) (o : Nat), k ≤ m → (cutsK q m p o).take k = cutsK q k p o
  | 0, _, _, _, _ => by rw [List.take_zero]; rfl
  | k + 1, m, p, o, h => by
    obtain ⟨m, rfl⟩ : ∃ x, m = x + 1 := ⟨m - 1, by omega⟩
    cases hf : firstOcc q p with
    | none => rw [cutsK_none hf, cutsK_none hf]; rfl
    | some i => rw [cutsK_some hf, cutsK_some hf, List.take_succ_cons, cuts_take k m _ _ (by omega)]


/-! runes of texts -/
/-! the reference's searches over lists -/
theorem Numbers_tot {a b : List Nat} (ha : a.length ≤ 100000000) : Tot (fun n => ref4_Numbers n (ints a) (ints b)) (· = decide (a = b)) := by
  unfold ref4_Numbers
  rw [ints_len, ints_len]
  refine Tot.ite (fun h => Tot.ret ?_) fun h => ?_
  · exact (decide_eq_false fun e => by subst e; simp at h).symm
  have hl : a.length = b.length := by
    by_cases e : (a.length : Int) = (b.length : Int)
    · omega
    · rw [bne_iff_ne.2 e] at h; cases h
  refine Tot.bindq (P := fun r => (r = .inl () ∧ a = b) ∨ (r = .inr false ∧ a ≠ b)) ?_ fun r hr => ?_
  · refine Tot.loop (fun (st : Int) => ∃ i : Nat, st = (i : Int) ∧ i ≤ a.length ∧ a.take i = b.take i) (fun (st : Int) => a.length - st.toNat) ⟨0, rfl, Nat.zero_le _, rfl⟩ fun st ⟨i, e, hi, hall⟩ => ?_
    subst e
    refine Tot.ite (fun h => ?_) fun h => ?_
    · have h : i < a.length := by have := of_decide_eq_true h; omega
      refine Tot.bind0 (ints_get h) (Tot.bind0 (ints_get (l := b) (by omega)) (Tot.ite (fun q => Tot.ret (.inr ⟨rfl, fun e => ?_⟩)) fun q => Tot.ret ⟨⟨i + 1, iw (by omega) (by omega), h, ?_⟩, ?_⟩))
      · subst e; simp at q
      · have q : a[i] = b[i]'(by omega) := by
          by_cases e : ((a[i] : Nat) : Int) = ((b[i]'(by omega) : Nat) : Int)
          · omega
          · rw [bne_iff_ne.2 e] at q; cases q
        rw [List.take_succ_eq_append_getElem h, List.take_succ_eq_append_getElem (by omega), hall, q]
      · rw [iw (n := i + 1) (by omega) (by omega)]; omega
    · have h : i = a.length := by have := of_decide_eq_false h; omega
      subst h
      refine Tot.ret (.inl ⟨rfl, ?_⟩)
      rw [List.take_length, hl, List.take_length] at hall; exact hall
  · rcases hr with ⟨e, h⟩ | ⟨e, h⟩
    · subst e; exact Tot.contl (Tot.ret (decide_eq_true h).symm)
    · subst e; exact Tot.contr (decide_eq_false h).symm
def hereB (p q : List Nat) (i : Nat) : Bool := q.isPrefixOf (p.drop i)
theorem prefix_take {q p : List Nat} : q.isPrefixOf p = decide (p.take q.length = q) := by
  by_cases h : q.isPrefixOf p = true
  · obtain ⟨b, hb⟩ := prefix_split h
    rw [h, hb, List.take_left]; exact (decide_eq_true rfl).symm
  · have h : q.isPrefixOf p = false := by cases hh : q.isPrefixOf p <;> simp_all
    rw [h]
    refine (decide_eq_false fun e => ?_).symm
    have : q.isPrefixOf p = true := List.isPrefixOf_iff_prefix.2 ⟨p.drop q.length, by have := List.take_append_drop q.length p; rw [e] at this; exact this⟩
    rw [h] at this; cases this
theorem here_tot {p q : List Nat} {i : Nat} (hp : p.length ≤ 100000000) (hq : q.length ≤ 100000000) (hi : i ≤ 100000000) : Tot (fun n => ref4_here n (ints p) (ints q) (i : Int)) (· = (decide (i + q.length ≤ p.length) && hereB p q i)) := by
  unfold ref4_here
  rw [ints_len, ints_len]
  have hw : IntKind.i64.wrap ((i : Int) + (q.length : Nat)) = ((i + q.length : Nat) : Int) := iw (by omega) (by omega)
  rw [hw]
  refine Tot.bindq (P := fun j => j = (decide (i + q.length ≤ p.length) && hereB p q i)) (Tot.it (decide_eq_true (by omega)) ?_) fun j hj => Tot.ret hj
  refine Tot.ite (fun h => ?_) fun h => Tot.ret ?_
  · have h : i + q.length ≤ p.length := by have := of_decide_eq_true h; omega
    refine Tot.bind0 (a := ints ((p.drop i).take q.length)) ?_ (Tot.bindq (Numbers_tot (by rw [List.length_take]; omega)) fun r hr => Tot.ret ?_)
    · rw [sub_ok (by omega) (by omega) (by rw [ints_len]; omega)]
      rw [Int.toNat_natCast, Int.toNat_natCast]
      unfold ints
      rw [← List.map_take, ← List.map_drop, List.drop_take, show i + q.length - i = q.length by omega]
    · rw [hr, decide_eq_true h, Bool.true_and]
      unfold hereB
      rw [prefix_take]
  · have h := of_decide_eq_false h
    rw [decide_eq_false (by omega), Bool.false_and]
theorem hereB_len {p q : List Nat} {i : Nat} (h : hereB p q i = true) (hi : i ≤ p.length) : i + q.length ≤ p.length := by
  obtain ⟨b, hb⟩ := prefix_split h
  have := congrArg List.length hb
  rw [List.length_drop, List.length_append] at this; omega
theorem here_false {p q : List Nat} {i : Nat} (hi : i ≤ p.length) : (decide (i + q.length ≤ p.length) && hereB p q i) = hereB p q i := by
  cases h : hereB p q i with
  | false => rw [Bool.and_false]
  | true => rw [Bool.and_true]; exact decide_eq_true (hereB_len h hi)
theorem first_here {p q : List Nat} {i : Nat} (h : hereB p q i = true) : firstOcc q (p.drop i) = some 0 := by
  unfold hereB at h
  cases hd : p.drop i with
  | nil =>
    rw [hd] at h
    unfold firstOcc
    cases q with
    | nil => rfl
    | cons c q => cases h
  | cons c r =>
    rw [hd] at h
    unfold firstOcc
    rw [if_pos h]
theorem first_not {p q : List Nat} {i : Nat} (hi : i < p.length) (h : hereB p q i = false) : firstOcc q (p.drop i) = (firstOcc q (p.drop (i + 1))).map (· + 1) := by
  unfold hereB at h
  rw [List.drop_eq_getElem_cons hi] at h ⊢
  show (if _ then _ else _) = _
  rw [h]; rfl

/-- where a text that is not empty stands, one behind the other -/
theorem Places_tot {p q : List Nat} (hne : q ≠ []) (hp : p.length ≤ 10000000) (hq : q.length ≤ 10000000) : Tot (fun n => ref4_Places n (ints p) (ints q)) (· = ints (cutsK q p.length p 0)) := by
  unfold ref4_Places
  simp only [ints_len]
  have h0 := List.length_pos_iff.2 hne
  refine Tot.bindq (P := fun r => r = ints (cutsK q p.length p 0)) ?_ fun r hr => Tot.ret hr
  refine Tot.loop (fun st => ∃ (i : Nat) (l : List Nat), st = (ints l, (i : Int)) ∧ i ≤ p.length ∧ cutsK q p.length p 0 = l ++ cutsK q p.length (p.drop i) i) (fun st => p.length + 1 - st.2.toNat) ⟨0, [], rfl, Nat.zero_le _, rfl⟩ fun st ⟨i, l, e, hi, hall⟩ => ?_
  subst e
  dsimp only
  have hw : IntKind.i64.wrap ((i : Int) + (q.length : Nat)) = ((i + q.length : Nat) : Int) := iw (by omega) (by omega)
  rw [hw]
  have hcl : l.length ≤ p.length := by
    have h1 := (cuts_le hne p.length p 0).2
    rw [hall, List.length_append] at h1; omega
  refine Tot.ite (fun h => ?_) fun h => ?_
  · have h : i + q.length ≤ p.length := by have := of_decide_eq_true h; omega
    refine Tot.bindq (here_tot (by omega) (by omega) (by omega)) fun r hr => ?_
    rw [here_false hi] at hr
    subst hr
    refine Tot.ite (fun g => Tot.ret ⟨⟨i + 1, l, ?_, by omega, ?_⟩, ?_⟩) fun g => ?_
    · rw [iw (n := i + 1) (by omega) (by omega)]
    · have g : hereB p q i = false := by cases hh : hereB p q i <;> rw [hh] at g <;> first | rfl | cases g
      have hf := first_not (by omega) g
      rw [hall]
      refine congrArg (l ++ ·) ?_
      cases hq2 : firstOcc q (p.drop (i + 1)) with
      | none =>
        rw [hq2] at hf
        rw [cutsK_none hq2, cutsK_none hf]
      | some j =>
        rw [hq2] at hf
        obtain ⟨m, hm⟩ : ∃ m, p.length = m + 1 := ⟨p.length - 1, by omega⟩
        rw [hm, cutsK_some hq2, cutsK_some hf, List.drop_drop, List.drop_drop]
        rw [show i + (j + 1 + q.length) = i + 1 + (j + q.length) by omega, show i + (j + 1) = i + 1 + j by omega]
    · dsimp only; rw [iw (n := i + 1) (by omega) (by omega)]; omega
    · have g : hereB p q i = true := by cases hh : hereB p q i <;> rw [hh] at g <;> first | rfl | cases g
      refine Tot.bind0 (app_ok (by rw [ints_len]; simp; omega)) (Tot.some_bind (Tot.bindq (P := fun j => j = ((i + q.length : Nat) : Int)) (Tot.if_ (beq_eq_false_iff_ne.2 (by omega)) (Tot.ret rfl)) fun j hj => Tot.ret ⟨⟨i + q.length, l ++ [i], ?_, h, ?_⟩, ?_⟩))
      · rw [hj, ints_app]; rfl
      · rw [hall]
        obtain ⟨m, hm⟩ : ∃ m, p.length = m + 1 := ⟨p.length - 1, by omega⟩
        have hf := first_here g
        rw [List.append_assoc]
        refine congrArg (l ++ ·) ?_
        have hlt : (p.drop i).length ≤ p.length := by rw [List.length_drop]; omega
        rw [hm, cutsK_some hf, List.drop_drop, Nat.add_zero, show i + (0 + q.length) = i + q.length by omega]
        refine congrArg (i :: ·) ?_
        rw [cuts_more hne m (p.drop (i + q.length)) (m + 1) _ (by rw [List.length_drop]; omega) (by omega)]
        rfl
      · rw [hj]; dsimp only; omega
  · have h := of_decide_eq_false h
    refine Tot.ret ?_
    have hf : firstOcc q (p.drop i) = none := by
      cases hh : firstOcc q (p.drop i) with
      | none => rfl
      | some j =>
        have := (occ_parts hh).2
        rw [List.length_drop] at this; omega
    rw [hall, cutsK_none hf, List.append_nil]
end Go.Gv.R
namespace Go.Gv.R
open Go Go.Gv Go.Gv.D Go.Lib

/-! the last place, by hashes from the end -/
theorem rev_tot {s : List UInt8} (hs : s.length ≤ 1048576) {lo hi : Int} {m : Nat} (hlo : lo = (m : Int)) (hm : m ≤ s.length) (hhi : hi = (s.length : Int) - 1) :
    Tot (fun fuel => loopN (fun (st : (Int × Int)) => (if (decide (st.2 ≥ lo)) then (Option.bind (idx s st.2) fun x => (Option.bind (some (IntKind.u32.wrap ((IntKind.u32.wrap (st.1 * 16777619)) + (IntKind.u32.wrap (((x).toNat : Int)))))) fun n => (some (.inl (n, (IntKind.i64.wrap (st.2 - 1))))))) else (some (.inr (st.1))))) fuel (0, hi)) (fun r => r = RK.H (s.drop m).reverse % 4294967296) := by
  subst hlo hhi
  refine Tot.loop (fun st => ∃ k : Nat, m ≤ k ∧ k ≤ s.length ∧ st = (RK.H (s.drop k).reverse % 4294967296, (k : Int) - 1)) (fun st => (st.2 + 1).toNat) ⟨s.length, hm, Nat.le_refl _, by rw [List.drop_length]; rfl⟩ fun st ⟨k, h1, h2, e⟩ => ?_
  subst e
  dsimp only
  refine Tot.ite (fun h => ?_) (fun h => ?_)
  · have h : ((k : Int) - 1) ≥ m := of_decide_eq_true h
    obtain ⟨k, rfl⟩ : ∃ j, k = j + 1 := ⟨k - 1, by omega⟩
    rw [show ((k + 1 : Nat) : Int) - 1 = (k : Int) by omega]
    refine Tot.bind0 (idx_nat (by omega)) (Tot.some_bind (Tot.ret ⟨⟨k, by omega, by omega, ?_⟩, ?_⟩))
    · rw [u32_wrap, u32_wrap, u32_wrap, RK.step_mod s[k] (A := RK.H (s.drop (k + 1)).reverse) rfl, ← RK.H_snoc, List.drop_eq_getElem_cons (by omega : k < s.length), List.reverse_cons, i64_small (by omega) (by omega)]
    · rw [i64_small (by omega) (by omega)]; omega
  · have h : ¬ ((k : Int) - 1) ≥ m := of_decide_eq_false h
    obtain rfl : k = m := by omega
    exact Tot.ret rfl
theorem hash_tot {q : List UInt8} (hq : q.length ≤ 1048576) : Tot (fun fuel => bytealg_hashStrRev_sbyte fuel q) (fun r => r.1 = RK.H q.reverse % 4294967296 ∧ r.2 = 16777619 ^ q.length % 4294967296) := by
  unfold bytealg_hashStrRev_sbyte
  rw [i64_small (by omega) (by omega)]
  refine Tot.some_bind (Tot.bindq (rev_tot hq (m := 0) rfl (Nat.zero_le _) rfl) fun r hr => ?_)
  rw [List.drop_zero] at hr
  refine Tot.bindq (P := fun p => p = 16777619 ^ q.length % 4294967296) ?_ fun p hp => Tot.ret ⟨hr, hp⟩
  refine Tot.loop (fun st => ∃ i : Nat, st.2.2 = (i : Int) ∧ i ≤ q.length ∧ 0 ≤ st.1 ∧ st.1 < 4294967296 ∧ RK.PowInv q.length i st.1 st.2.1) (fun st => st.2.2.toNat) ⟨q.length, rfl, Nat.le_refl _, (by decide : (0 : Int) ≤ 1), (by decide : (1 : Int) < 4294967296), RK.pow_start _⟩ fun st ⟨i, e, hi, h0, h1, hp⟩ => ?_
  obtain ⟨pw, sq, j⟩ := st
  simp only at e h0 h1 hp
  subst e
  dsimp only
  refine Tot.ite (fun h => ?_) (fun h => ?_)
  · have h : (i : Int) > 0 := of_decide_eq_true h
    have hb : bwAnd .i64 (i : Int) 1 = ((i % 2 : Nat) : Int) := by
      have := and_mod i 1 (by omega) (by omega)
      simpa using this
    have hd : (i : Int).fdiv (2 ^ 1) = ((i / 2 : Nat) : Int) := by
      rw [Int.fdiv_eq_ediv_of_nonneg _ (by decide)]; omega
    rw [hb, hd]
    refine Tot.bindq (P := fun j => j = if i % 2 = 0 then pw else pw * sq % 4294967296) ?_ fun j hj => Tot.ret ⟨⟨i / 2, rfl, by omega, ?_, ?_, ?_⟩, by show ((i / 2 : Nat) : Int).toNat < ((i : Nat) : Int).toNat; omega⟩
    · refine Tot.ite (fun o => Tot.ret ?_) (fun o => Tot.ret ?_)
      · have o := bne_iff_ne.1 o
        rw [if_neg (by omega), u32_wrap]
      · have o : ((i % 2 : Nat) : Int) = 0 := by by_cases o' : ((i % 2 : Nat) : Int) = 0; exact o'; rw [bne_iff_ne.2 o'] at o; cases o
        rw [if_pos (by omega)]
    · rw [hj]; split <;> omega
    · rw [hj]; split <;> omega
    · rw [hj, u32_wrap]
      split
      · exact RK.pow_even hp (by assumption)
      · exact RK.pow_odd hp (by omega)
  · have h : ¬ (i : Int) > 0 := of_decide_eq_false h
    obtain rfl : i = 0 := by omega
    exact Tot.ret (RK.pow_end hp h0 h1)

/-- the last place at which q stands in s, or -1 -/
def Lst (s q : List UInt8) (r : Int) : Prop := (r = -1 ∧ ∀ k, k + q.length ≤ s.length → occAt s q k = false) ∨ ∃ i : Nat, r = i ∧ i + q.length ≤ s.length ∧ occAt s q i = true ∧ ∀ j, i < j → j + q.length ≤ s.length → occAt s q j = false
/-- the first one -/
def Fst (s q : List UInt8) (r : Int) : Prop := (r = -1 ∧ ∀ k, k + q.length ≤ s.length → occAt s q k = false) ∨ ∃ i : Nat, r = i ∧ i + q.length ≤ s.length ∧ occAt s q i = true ∧ ∀ j, j < i → occAt s q j = false
theorem str_beq (x y : List UInt8) : ((strOf x).toList == (strOf y).toList) = decide (x = y) := by
  rw [toList_bytes, toList_bytes, bytes_str, bytes_str]
  by_cases h : x = y
  · rw [h]; simp
  · rw [decide_eq_false h]; simpa using h
theorem sub_nat {α : Type} {xs : List α} {l h : Int} {a n : Nat} (hl : l = (a : Int)) (hh : h = ((a + n : Nat) : Int)) (h2 : a + n ≤ xs.length) : sub xs l h = some ((xs.drop a).take n) := by
  subst hl hh
  rw [sub_ok (by omega) (by omega) (by omega), Int.toNat_natCast, Int.toNat_natCast, List.drop_take, Nat.add_sub_cancel_left]
theorem occ_take {s q : List UInt8} {k : Nat} (h : k + q.length ≤ s.length) : occAt s q k = decide ((s.drop k).take q.length = q) := by
  rw [occAt_iff_take s q k h]
  by_cases e : (s.drop k).take q.length = q
  · rw [decide_eq_true e, e]; simp
  · rw [decide_eq_false e]; simpa using e
theorem occ_hash {s q : List UInt8} {k : Nat} (h : k + q.length ≤ s.length) {x y : Int} (hx : x = RK.H (RK.win s k q.length).reverse % 4294967296) (hy : y = RK.H q.reverse % 4294967296) (hne : (x == y) = false) : occAt s q k = false := by
  rw [occ_take h]
  refine decide_eq_false fun e => ?_
  unfold RK.win at hx
  rw [e, ← hy] at hx
  rw [hx] at hne
  simp at hne
set_option maxHeartbeats 1000000 in
theorem LastRK_tot {s q : List UInt8} (hs : s.length ≤ 1048576) (hq : 1 ≤ q.length) (hl : q.length < s.length) : Tot (fun fuel => bytealg_LastIndexRabinKarp_sbyte fuel s q) (Lst s q) := by
  unfold bytealg_LastIndexRabinKarp_sbyte
  refine Tot.bindq (hash_tot (by omega)) fun r ⟨hr1, hr2⟩ => ?_
  obtain ⟨hss, pw⟩ := r
  simp only at hr1 hr2 ⊢
  obtain ⟨n, hn⟩ : ∃ n, s.length = n + q.length := ⟨s.length - q.length, by omega⟩
  have hn0 : ((s.length : Nat) : Int) - ((q.length : Nat) : Int) = (n : Int) := by omega
  rw [hn0, i64_small (x := (n : Int)) (by omega) (by omega), i64_small (x := ((s.length : Nat) : Int) - 1) (by omega) (by omega)]
  refine Tot.some_bind (Tot.some_bind (Tot.bindq (rev_tot hs (m := n) rfl (by omega) rfl) fun h0 hh0 => ?_))
  have hw : (s.drop n) = RK.win s n q.length := by
    unfold RK.win
    rw [List.take_of_length_le (by rw [List.length_drop]; omega)]
  rw [hw] at hh0
  refine Tot.bindq (P := fun j => j = occAt s q n) ?_ fun j hj => ?_
  · refine Tot.ite (fun h => ?_) (fun h => Tot.ret (occ_hash (by omega) hh0 hr1 h).symm)
    refine Tot.bind0 (sub_nat (a := n) (n := q.length) rfl (by omega) (by omega)) (Tot.ret ?_)
    rw [str_beq, occ_take (by omega)]
  refine Tot.ite (fun h => Tot.ret (.inr ⟨n, rfl, by omega, by rw [← hj]; exact h, fun k h1 h2 => by omega⟩)) (fun h => ?_)
  rw [h] at hj
  rw [i64_small (x := (n : Int) - 1) (by omega) (by omega)]
  refine Tot.bindq (P := fun r => (r = .inl () ∧ ∀ k, k + q.length ≤ s.length → occAt s q k = false) ∨ ∃ i : Nat, r = .inr (i : Int) ∧ i + q.length ≤ s.length ∧ occAt s q i = true ∧ ∀ j, i < j → j + q.length ≤ s.length → occAt s q j = false) ?_ fun r hr => ?_
  · refine Tot.loop (fun st => ∃ k : Nat, k ≤ n ∧ st = (RK.H (RK.win s k q.length).reverse % 4294967296, (k : Int) - 1) ∧ ∀ j, k ≤ j → j + q.length ≤ s.length → occAt s q j = false) (fun st => (st.2 + 1).toNat) ⟨n, Nat.le_refl _, by rw [hh0], fun k h1 h2 => by
      obtain rfl : k = n := by omega
      exact hj.symm⟩ fun st ⟨k, hk, e, hno⟩ => ?_
    subst e
    dsimp only
    refine Tot.ite (fun h => ?_) (fun h => ?_)
    · have h : ((k : Int) - 1) ≥ 0 := of_decide_eq_true h
      obtain ⟨k, rfl⟩ : ∃ j, k = j + 1 := ⟨k - 1, by omega⟩
      rw [show ((k + 1 : Nat) : Int) - 1 = (k : Int) by omega]
      have hkq : IntKind.i64.wrap ((k : Int) + ((q.length : Nat) : Int)) = ((k + q.length : Nat) : Int) := i64_small (by omega) (by omega)
      rw [hkq]
      have e1 : RK.win s (k + 1) q.length = RK.win s (k + 1) (q.length - 1) ++ [s[k + q.length]'(by omega)] := by
        have := RK.win_snoc s (k + 1) (q.length - 1) (by omega)
        rw [show q.length - 1 + 1 = q.length by omega] at this
        rw [this]
        simp only [show k + 1 + (q.length - 1) = k + q.length by omega]
      have e2 : RK.win s k q.length = s[k]'(by omega) :: RK.win s (k + 1) (q.length - 1) := by
        have := RK.win_cons s k (q.length - 1) (by omega)
        rwa [show q.length - 1 + 1 = q.length by omega] at this
      have hroll : IntKind.u32.wrap ((IntKind.u32.wrap ((IntKind.u32.wrap (RK.H (RK.win s (k + 1) q.length).reverse % 4294967296 * 16777619)) + (IntKind.u32.wrap (((s[k]'(by omega)).toNat : Int))))) - (IntKind.u32.wrap (pw * (IntKind.u32.wrap (((s[k + q.length]'(by omega)).toNat : Int)))))) = RK.H (RK.win s k q.length).reverse % 4294967296 := by
        rw [u32_wrap, u32_wrap, u32_wrap, u32_wrap, u32_wrap, u32_wrap]
        have := RK.roll_mod (h := RK.H (RK.win s (k + 1) q.length).reverse % 4294967296) (pw := pw) (s[k + q.length]'(by omega)) (s[k]'(by omega)) (RK.win s (k + 1) (q.length - 1)).reverse (by rw [e1, List.reverse_append]; rfl) (by rw [hr2, List.length_reverse, RK.win_length _ _ _ (by omega), show q.length - 1 + 1 = q.length by omega])
        rw [e2, List.reverse_cons, ← this]
        generalize RK.H (RK.win s (k + 1) q.length).reverse % 4294967296 = A
        generalize pw * (((s[k + q.length]'(by omega)).toNat : Int) % 4294967296) = B
        omega
      refine Tot.bind0 (idx_nat (by omega)) (Tot.some_bind (Tot.bind0 (idx_nat (by omega)) (Tot.some_bind ?_)))
      rw [hroll]
      refine Tot.bindq (P := fun j => j = occAt s q k) ?_ fun j hj => ?_
      · refine Tot.ite (fun h => ?_) (fun h => Tot.ret (occ_hash (by omega) rfl hr1 h).symm)
        refine Tot.bind0 (sub_nat (a := k) (n := q.length) rfl rfl (by omega)) (Tot.ret ?_)
        rw [str_beq, occ_take (by omega)]
      refine Tot.ite (fun o => Tot.ret (.inr ⟨k, rfl, by omega, by rw [← hj]; exact o, fun j h1 h2 => hno j (by omega) h2⟩)) (fun o => Tot.ret ⟨⟨k, by omega, ?_, fun j h1 h2 => ?_⟩, ?_⟩)
      · rw [i64_small (by omega) (by omega)]
      · rcases Nat.lt_or_ge k j with h' | h'
        · exact hno j h' h2
        · obtain rfl : j = k := by omega
          rw [← hj]; exact o
      · rw [i64_small (by omega) (by omega)]; omega
    · have h : ¬ ((k : Int) - 1) ≥ 0 := of_decide_eq_false h
      obtain rfl : k = 0 := by omega
      exact Tot.ret (.inl ⟨rfl, fun j hj => hno j (Nat.zero_le _) hj⟩)
  · rcases hr with ⟨e, h⟩ | ⟨i, e, h⟩
    · subst e; exact Tot.contl (Tot.ret (.inl ⟨rfl, h⟩))
    · subst e; exact Tot.contr (.inr ⟨i, rfl, h⟩)
theorem LastByte_tot {s : List UInt8} (hs : s.length ≤ 1048576) (c : UInt8) : Tot (fun fuel => bytealg_LastIndexByte fuel s (c.toNat : Int)) (Lst s [c]) := by
  unfold bytealg_LastIndexByte
  rw [i64_small (by omega) (by omega)]
  have occ1 : ∀ k (h : k < s.length), occAt s [c] k = decide (s[k] = c) := fun k h => by
    have hd : (s.drop k).take [c].length = [s[k]] := by rw [List.drop_eq_getElem_cons h]; rfl
    rw [occ_take (by simp; omega), hd]
    by_cases e : s[k] = c
    · rw [e]; simp
    · rw [decide_eq_false e]; exact decide_eq_false fun e' => e (List.cons.inj e').1
  refine Tot.some_bind (Tot.bindq (P := fun r => (r = .inl () ∧ ∀ k, k + [c].length ≤ s.length → occAt s [c] k = false) ∨ ∃ i : Nat, r = .inr (i : Int) ∧ i + [c].length ≤ s.length ∧ occAt s [c] i = true ∧ ∀ j, i < j → j + [c].length ≤ s.length → occAt s [c] j = false) ?_ fun r hr => ?_)
  · refine Tot.loop (fun st => ∃ k : Nat, k ≤ s.length ∧ st = (k : Int) - 1 ∧ ∀ j, k ≤ j → j + [c].length ≤ s.length → occAt s [c] j = false) (fun st => (st + 1).toNat) ⟨s.length, Nat.le_refl _, rfl, fun j h1 h2 => by simp at h2; omega⟩ fun st ⟨k, hk, e, hno⟩ => ?_
    subst e
    refine Tot.ite (fun h => ?_) (fun h => ?_)
    · have h : ((k : Int) - 1) ≥ 0 := of_decide_eq_true h
      obtain ⟨k, rfl⟩ : ∃ j, k = j + 1 := ⟨k - 1, by omega⟩
      rw [show ((k + 1 : Nat) : Int) - 1 = (k : Int) by omega]
      refine Tot.bind0 (idx_nat (by omega)) (Tot.ite (fun o => Tot.ret (.inr ⟨k, rfl, by simp; omega, ?_, fun j h1 h2 => hno j (by omega) h2⟩)) (fun o => Tot.ret ⟨⟨k, by omega, ?_, fun j h1 h2 => ?_⟩, ?_⟩))
      · have o := beq_iff_eq.1 o
        rw [occ1 k (by omega)]
        exact decide_eq_true (UInt8.toNat_inj.1 (by omega))
      · rw [i64_small (by omega) (by omega)]
      · rcases Nat.lt_or_ge k j with h' | h'
        · exact hno j h' h2
        · obtain rfl : j = k := by omega
          rw [occ1 j (by omega)]
          refine decide_eq_false fun e => ?_
          rw [e] at o; simp at o
      · rw [i64_small (by omega) (by omega)]; omega
    · have h : ¬ ((k : Int) - 1) ≥ 0 := of_decide_eq_false h
      obtain rfl : k = 0 := by omega
      exact Tot.ret (.inl ⟨rfl, fun j hj => hno j (Nat.zero_le _) hj⟩)
  · rcases hr with ⟨e, h⟩ | ⟨i, e, h⟩
    · subst e; exact Tot.contl (Tot.ret (.inl ⟨rfl, h⟩))
    · subst e; exact Tot.contr (.inr ⟨i, rfl, h⟩)
theorem Last_tot {s q : List UInt8} (hs : s.length ≤ 1048576) (hq : q.length ≤ 1048576) : Tot (fun fuel => bytes_LastIndex fuel s q) (Lst s q) := by
  unfold bytes_LastIndex
  refine Tot.ite (fun h => Tot.ret ?_) (fun h => ?_)
  · have h : q = [] := List.eq_nil_of_length_eq_zero (by have := beq_iff_eq.1 h; omega)
    subst h
    exact .inr ⟨s.length, rfl, by simp, by simp [occAt], fun j h1 h2 => by simp at h2; omega⟩
  have h0 : q.length ≠ 0 := fun e => by rw [e] at h; simp at h
  refine Tot.ite (fun h => ?_) (fun h => ?_)
  · have h : q.length = 1 := by have := beq_iff_eq.1 h; omega
    obtain ⟨c, rfl⟩ := List.length_eq_one_iff.1 h
    exact Tot.bind0 (a := c) rfl (Tot.bindq (LastByte_tot hs c) fun r hr => Tot.ret hr)
  refine Tot.some_bind (Tot.ite (fun h => ?_) (fun h => ?_))
  · have h : q.length = s.length := by have := beq_iff_eq.1 h; omega
    unfold bytes_Equal
    refine Tot.bindq (P := fun r => r = decide (s = q)) (Tot.some_bind (Tot.ret (str_beq s q))) fun r hr => ?_
    subst hr
    refine Tot.ite (fun e => Tot.ret ?_) (fun e => Tot.ret ?_)
    · have e : s = q := of_decide_eq_true e
      subst e
      exact .inr ⟨0, rfl, by omega, by rw [occ_take (by omega)]; simp, fun j h1 h2 => by omega⟩
    · have e : s ≠ q := of_decide_eq_false e
      refine .inl ⟨rfl, fun k hk => ?_⟩
      obtain rfl : k = 0 := by omega
      rw [occ_take hk]
      refine decide_eq_false fun e' => e ?_
      rw [List.drop_zero, h, List.take_length] at e'; exact e'
  have h1 : q.length ≠ s.length := fun e => by rw [e] at h; simp at h
  refine Tot.some_bind (Tot.ite (fun h => Tot.ret ?_) (fun h => ?_))
  · have h : ((q.length : Nat) : Int) > (s.length : Int) := of_decide_eq_true h
    exact .inl ⟨rfl, fun k hk => by omega⟩
  · have h : ¬ ((q.length : Nat) : Int) > (s.length : Int) := of_decide_eq_false h
    exact Tot.bindq (LastRK_tot hs (by omega) (by omega)) fun r hr => Tot.ret hr
theorem index_fst (s q : List UInt8) : Fst s q (Lib.index s q) := by
  rcases index_spec s q with ⟨e, h⟩ | ⟨i, e, hi, ho, hn⟩
  · exact .inl ⟨e, fun k hk => h k (by omega)⟩
  · refine .inr ⟨i, e, ?_, ho, hn⟩
    have := index_room s q (by omega)
    omega
end Go.Gv.R
namespace Go.Gv.R
open Go Go.Gv Go.Gv.D Go.Lib

/-! bytes as numbers -/
def nats (l : List UInt8) : List Nat := l.map UInt8.toNat
theorem nats_len (l : List UInt8) : (nats l).length = l.length := by simp [nats]
theorem nats_inj : ∀ {a b : List UInt8}, nats a = nats b → a = b
  | [], [], _ => rfl
  | [], _ :: _, h => by simp [nats] at h
  | _ :: _, [], h => by simp [nats] at h
  | x :: a, y :: b, h => by
    unfold nats at h
    rw [List.map_cons, List.map_cons] at h
    injection h with h1 h2
    rw [UInt8.toNat_inj.1 h1, nats_inj (a := a) (b := b) h2]
theorem nats_pre : ∀ (q p : List UInt8), (nats q).isPrefixOf (nats p) = q.isPrefixOf p
  | [], _ => by simp [nats]
  | _ :: _, [] => by simp [nats]
  | x :: q, y :: p => by
    show ((x.toNat == y.toNat) && (nats q).isPrefixOf (nats p)) = ((x == y) && q.isPrefixOf p)
    rw [nats_pre q p]
    congr 1
    by_cases h : x = y
    · rw [h]; simp
    · rw [beq_eq_false_iff_ne.2 h, beq_eq_false_iff_ne.2 fun e => h (UInt8.toNat_inj.1 e)]
theorem nats_drop (l : List UInt8) (i : Nat) : (nats l).drop i = nats (l.drop i) := by simp [nats]
theorem nats_take (l : List UInt8) (i : Nat) : (nats l).take i = nats (l.take i) := by simp [nats]
theorem here_occ (b q : List UInt8) (i : Nat) : hereB (nats b) (nats q) i = occAt b q i := by
  unfold hereB occAt
  rw [nats_drop, nats_pre]
theorem codes_tot {b : List UInt8} (hb : b.length ≤ 1048576) : Tot (fun fuel => law4_codes fuel b) (· = ints (nats b)) := by
  unfold law4_codes
  refine Tot.bindq (P := fun r => r = ints (nats b)) ?_ fun r hr => Tot.ret hr
  refine Tot.loop (fun st => ∃ i : Nat, i ≤ b.length ∧ st = (ints (nats (b.take i)), (i : Int))) (fun st => b.length - st.2.toNat) ⟨0, Nat.zero_le _, rfl⟩ fun st ⟨i, hi, e⟩ => ?_
  subst e
  dsimp only
  refine Tot.ite (fun h => ?_) (fun h => ?_)
  · have h : i < b.length := by have : (i : Int) < (b.length : Int) := of_decide_eq_true h; omega
    refine Tot.bind0 (idx_nat h) (Tot.bind0 (app_ok (by rw [ints_len, nats_len, List.length_take]; simp; omega)) (Tot.ret ⟨⟨i + 1, h, ?_⟩, ?_⟩))
    · rw [take_snoc h, i64_small (x := (b[i].toNat : Int)) (by have := b[i].toNat_lt; omega) (by have := b[i].toNat_lt; omega), i64_small (by omega) (by omega)]
      unfold nats
      rw [List.map_append, ints_app]; rfl
    · show b.length - (IntKind.i64.wrap ((i : Int) + 1)).toNat < b.length - ((i : Nat) : Int).toNat
      rw [i64_small (by omega) (by omega)]; omega
  · have h : ¬ (i : Int) < (b.length : Int) := of_decide_eq_false h
    obtain rfl : i = b.length := by omega
    exact Tot.ret (by rw [List.take_length])
theorem SameBytes_tot (a b : List UInt8) : Tot (fun fuel => ref4_SameBytes fuel a b) (· = decide (a = b)) := by
  unfold ref4_SameBytes
  exact Tot.some_bind (Tot.ret (str_beq a b))
theorem occ_mid {b q : List UInt8} {f t k : Nat} (h : f ≤ t) (ht : t ≤ b.length) (hk : k + q.length ≤ t - f) : occAt ((b.drop f).take (t - f)) q k = occAt b q (f + k) := by
  rw [occ_take (by rw [List.length_take, List.length_drop]; omega), occ_take (by omega)]
  congr 2
  rw [List.drop_take, List.drop_drop, List.take_take, Nat.min_eq_left (by omega)]
/-- what the reference's search gives -/
def OccR (b q : List UInt8) (f t : Nat) (last : Bool) (r : Int) : Prop := ∃ r', (if last = true then Lst ((b.drop f).take (t - f)) q r' else Fst ((b.drop f).take (t - f)) q r') ∧ r = if r' ≥ 0 then r' + f else r'
theorem lst_uni {s q : List UInt8} {r r' : Int} (h : Lst s q r) (h' : Lst s q r') : r = r' := by
  rcases h with ⟨e, h⟩ | ⟨i, e, h1, h2, h3⟩ <;> rcases h' with ⟨e', h'⟩ | ⟨i', e', h1', h2', h3'⟩
  · rw [e, e']
  · rw [h i' h1'] at h2'; cases h2'
  · rw [h' i h1] at h2; cases h2
  · rcases Nat.lt_trichotomy i i' with c | c | c
    · rw [h3 i' c h1'] at h2'; cases h2'
    · rw [e, e', c]
    · rw [h3' i c h1] at h2; cases h2
theorem fst_uni {s q : List UInt8} {r r' : Int} (h : Fst s q r) (h' : Fst s q r') : r = r' := by
  rcases h with ⟨e, h⟩ | ⟨i, e, h1, h2, h3⟩ <;> rcases h' with ⟨e', h'⟩ | ⟨i', e', h1', h2', h3'⟩
  · rw [e, e']
  · rw [h i' h1'] at h2'; cases h2'
  · rw [h' i h1] at h2; cases h2
  · rcases Nat.lt_trichotomy i i' with c | c | c
    · rw [h3' i c] at h2; cases h2
    · rw [e, e', c]
    · rw [h3 i' c] at h2'; cases h2'
theorem occR_uni {b q : List UInt8} {f t : Nat} {last : Bool} {r r' : Int} (h : OccR b q f t last r) (h' : OccR b q f t last r') : r = r' := by
  obtain ⟨x, h, rfl⟩ := h
  obtain ⟨y, h', rfl⟩ := h'
  have : x = y := by
    cases last
    · exact fst_uni h h'
    · exact lst_uni h h'
  rw [this]
theorem Occurs_tot {b q : List UInt8} {f t : Nat} {last : Bool} (hb : b.length ≤ 1048576) (hq : q.length ≤ 1048576) (hf : f ≤ t) (ht : t ≤ b.length) : Tot (fun fuel => ref4_Occurs fuel (ints (nats b)) (ints (nats q)) (f : Int) (t : Int) last) (OccR b q f t last) := by
  unfold ref4_Occurs
  simp only [ints_len, nats_len]
  refine Tot.bindq (P := OccR b q f t last) ?_ fun r hr => Tot.ret hr
  refine Tot.loop (fun st => ∃ i : Nat, f ≤ i ∧ i ≤ t + 1 ∧ st.2 = (i : Int) ∧ ((st.1 = -1 ∧ ∀ j, f ≤ j → j < i → j + q.length ≤ t → occAt b q j = false) ∨ ∃ k : Nat, st.1 = (k : Int) ∧ f ≤ k ∧ k < i ∧ k + q.length ≤ t ∧ occAt b q k = true ∧ (last = true → ∀ j, k < j → j < i → j + q.length ≤ t → occAt b q j = false) ∧ (last = false → ∀ j, f ≤ j → j < k → occAt b q j = false))) (fun st => t + 1 - st.2.toNat) ⟨f, Nat.le_refl _, by omega, rfl, .inl ⟨rfl, fun j h1 h2 => by omega⟩⟩ fun st ⟨i, h1, h2, e, hst⟩ => ?_
  obtain ⟨out, ii⟩ := st
  simp only at e hst
  subst e
  dsimp only
  have hw : IntKind.i64.wrap ((i : Int) + (q.length : Nat)) = ((i + q.length : Nat) : Int) := iw (by omega) (by omega)
  rw [hw]
  refine Tot.ite (fun h => ?_) (fun h => ?_)
  · have h : i + q.length ≤ t := by have : ((i + q.length : Nat) : Int) ≤ t := of_decide_eq_true h; omega
    refine Tot.bindq (P := fun j => j = (occAt b q i && (decide (out < 0) || last))) ?_ fun j hj => ?_
    · refine Tot.bindq (here_tot (p := nats b) (q := nats q) (i := i) (by rw [nats_len]; omega) (by rw [nats_len]; omega) (by omega)) fun r hr => ?_
      rw [nats_len, nats_len, decide_eq_true (by omega : i + q.length ≤ b.length), Bool.true_and, here_occ] at hr
      refine Tot.ite (fun o => ?_) (fun o => Tot.ret (by rw [← hr, o]; rfl))
      rw [← hr, o, Bool.true_and]
      exact Tot.ite (fun o => Tot.ret (by rw [o]; rfl)) (fun o => Tot.ret (by rw [o]; rfl))
    · refine Tot.bindq (P := fun x => x = if j = true then (i : Int) else out) ?_ fun x hx => Tot.ret ⟨⟨i + 1, by omega, by omega, iw (by omega) (by omega), ?_⟩, ?_⟩
      · exact Tot.ite (fun o => Tot.ret (by rw [if_pos o])) (fun o => Tot.ret (by rw [o]; rfl))
      · have step : ∀ j, j < i + 1 → j < i ∨ j = i := fun j h => by omega
        by_cases ho : occAt b q i = true
        · rcases hst with ⟨e, hn⟩ | ⟨k, e, k1, k2, k3, k4, k5, k6⟩
          · subst e
            rw [ho] at hj
            have hj : j = true := by rw [hj]; rfl
            rw [if_pos hj] at hx
            refine .inr ⟨i, hx, h1, by omega, h, ho, fun _ j h1 h2 => by omega, fun _ j h1 h2 => hn j h1 h2 (by omega)⟩
          · subst e
            rw [ho, decide_eq_false (by omega : ¬ (k : Int) < 0)] at hj
            cases hl : last
            · rw [hl] at hj
              have hj : j = false := by rw [hj]; rfl
              rw [hj] at hx
              exact .inr ⟨k, hx, k1, by omega, k3, k4, fun e => (by cases e), fun _ => k6 hl⟩
            · rw [hl] at hj
              have hj : j = true := by rw [hj]; rfl
              rw [if_pos hj] at hx
              exact .inr ⟨i, hx, h1, by omega, h, ho, fun _ j h1 h2 => by omega, fun e => (by cases e)⟩
        · have ho : occAt b q i = false := by cases hh : occAt b q i <;> simp_all
          rw [ho, Bool.false_and] at hj
          rw [hj] at hx
          have hx : x = out := hx
          subst hx
          rcases hst with ⟨e, hn⟩ | ⟨k, e, k1, k2, k3, k4, k5, k6⟩
          · exact .inl ⟨e, fun j h1 h2 h3 => by rcases step j h2 with c | c; exact hn j h1 c h3; rw [c]; exact ho⟩
          · exact .inr ⟨k, e, k1, by omega, k3, k4, fun hl j h1 h2 h3 => by rcases step j h2 with c | c; exact k5 hl j h1 c h3; rw [c]; exact ho, k6⟩
      · show t + 1 - (IntKind.i64.wrap ((i : Int) + 1)).toNat < t + 1 - ((i : Nat) : Int).toNat
        rw [iw (n := i + 1) (by omega) (by omega)]; omega
  · have h : ¬ i + q.length ≤ t := by have : ¬ ((i + q.length : Nat) : Int) ≤ t := of_decide_eq_false h; omega
    refine Tot.ret ?_
    have hl : ((b.drop f).take (t - f)).length = t - f := by rw [List.length_take, List.length_drop]; omega
    rcases hst with ⟨e, hn⟩ | ⟨k, e, k1, k2, k3, k4, k5, k6⟩
    · subst e
      have hno : ∀ k, k + q.length ≤ ((b.drop f).take (t - f)).length → occAt ((b.drop f).take (t - f)) q k = false := fun k hk => by
        rw [hl] at hk
        rw [occ_mid hf ht hk]
        exact hn (f + k) (by omega) (by omega) (by omega)
      refine ⟨-1, ?_, rfl⟩
      cases last
      · exact .inl ⟨rfl, hno⟩
      · exact .inl ⟨rfl, hno⟩
    · subst e
      have hk : occAt ((b.drop f).take (t - f)) q (k - f) = true := by
        rw [occ_mid hf ht (by omega), show f + (k - f) = k by omega]; exact k4
      refine ⟨((k - f : Nat) : Int), ?_, by rw [if_pos (by omega)]; omega⟩
      cases hl' : last
      · refine .inr ⟨k - f, rfl, by rw [hl]; omega, hk, fun j hj => ?_⟩
        rw [occ_mid hf ht (by omega)]
        exact k6 hl' (f + j) (by omega) (by omega)
      · refine .inr ⟨k - f, rfl, by rw [hl]; omega, hk, fun j hj hj2 => ?_⟩
        rw [hl] at hj2
        rw [occ_mid hf ht (by omega)]
        exact k5 hl' (f + j) (by omega) (by omega) (by omega)
theorem check2_tot (b c : List UInt8) (hb : b.length ≤ 1048576) (hc : c.length ≤ 1048576) : Tot (fun fuel => bytestr_check fuel [b, c]) (fun r => r = if 4000 < b.length then (3, -1) else if 4000 < c.length then (3, -2) else (0, 0)) := by
  unfold bytestr_check
  refine Tot.bindq (P := fun r => r = if 4000 < b.length then .inr (3, -1) else if 4000 < c.length then .inr (3, -2) else .inl (0, 0)) ?_ fun r hr => ?_
  · refine Tot.loop (fun st => st = (0, (0, 0)) ∨ (st = (1, (0, 0)) ∧ b.length ≤ 4000) ∨ (st = (2, (0, 0)) ∧ b.length ≤ 4000 ∧ c.length ≤ 4000)) (fun st => 2 - st.1.toNat) (.inl rfl) fun st hst => ?_
    rcases hst with e | ⟨e, h⟩ | ⟨e, h, h'⟩
    · subst e
      refine Tot.it rfl (Tot.bind0 (a := b) rfl (Tot.ite (fun h => ?_) (fun h => ?_)))
      · have h : (b.length : Int) > 4000 := of_decide_eq_true h
        refine Tot.bindq (bytestr_at_tot 3 _) fun r hr => Tot.ret ?_
        subst hr
        rw [if_pos (by omega)]; rfl
      · have h : ¬ (b.length : Int) > 4000 := of_decide_eq_false h
        exact Tot.ret ⟨.inr (.inl ⟨rfl, by omega⟩), by decide⟩
    · subst e
      refine Tot.it rfl (Tot.bind0 (a := c) rfl (Tot.ite (fun h => ?_) (fun h => ?_)))
      · have h : (c.length : Int) > 4000 := of_decide_eq_true h
        refine Tot.bindq (bytestr_at_tot 3 _) fun r hr => Tot.ret ?_
        subst hr
        rw [if_neg (by omega), if_pos (by omega)]; rfl
      · have h : ¬ (c.length : Int) > 4000 := of_decide_eq_false h
        exact Tot.ret ⟨.inr (.inr ⟨rfl, by omega, by omega⟩), by decide⟩
    · subst e
      refine Tot.if_ rfl (Tot.ret ?_)
      rw [if_neg (by omega), if_neg (by omega)]
  · by_cases h : 4000 < b.length
    · rw [if_pos h] at hr
      subst hr
      exact Tot.contr (by rw [if_pos h])
    · rw [if_neg h] at hr
      by_cases h' : 4000 < c.length
      · rw [if_pos h'] at hr
        subst hr
        exact Tot.contr (by rw [if_neg h, if_pos h'])
      · rw [if_neg h'] at hr
        subst hr
        exact Tot.contl (Tot.ret (by rw [if_neg h, if_neg h']))
/-- what Find answers -/
def FindR (b q : List UInt8) (f t : Int) (last : Bool) (r : Int × Int × Int) : Prop :=
  if 4000 < b.length then r = (0, 3, -1) else if 4000 < q.length then r = (0, 3, -2) else if f < 0 ∨ f > b.length then r = (0, 4, -3) else if t < f ∨ t > b.length then r = (0, 4, -4) else OccR b q f.toNat t.toNat last r.1 ∧ r.2 = (0, 0)
theorem Find_tot {b q : List UInt8} (f t : Int) (last : Bool) (hb : b.length ≤ 1048576) (hq : q.length ≤ 1048576) : Tot (fun fuel => bytestr_Find fuel b q f t last) (FindR b q f t last) := by
  unfold bytestr_Find
  refine Tot.bindq (check2_tot b q hb hq) fun r hr => ?_
  unfold FindR
  by_cases h1 : 4000 < b.length
  · rw [if_pos h1] at hr; subst hr
    exact Tot.it rfl (Tot.ret (by rw [if_pos h1]))
  rw [if_neg h1] at hr
  by_cases h2 : 4000 < q.length
  · rw [if_pos h2] at hr; subst hr
    exact Tot.it rfl (Tot.ret (by rw [if_neg h1, if_pos h2]))
  rw [if_neg h2] at hr; subst hr
  refine Tot.if_ rfl (Tot.mono (Q := fun r => if f < 0 ∨ f > b.length then r = (0, 4, -3) else if t < f ∨ t > b.length then r = (0, 4, -4) else OccR b q f.toNat t.toNat last r.1 ∧ r.2 = (0, 0)) ?_ fun r h => by rw [if_neg h1, if_neg h2]; exact h)
  refine Tot.ite (fun h => ?_) (fun h => ?_)
  · rw [Bool.or_eq_true, decide_eq_true_eq, decide_eq_true_eq] at h
    refine Tot.bindq (bytestr_at_tot 4 (-3)) fun r hr => Tot.ret ?_
    subst hr
    rw [if_pos h]
  rw [Bool.or_eq_false_iff, decide_eq_false_iff_not, decide_eq_false_iff_not] at h
  refine Tot.mono (Q := fun r => if t < f ∨ t > b.length then r = (0, 4, -4) else OccR b q f.toNat t.toNat last r.1 ∧ r.2 = (0, 0)) ?_ fun r h' => by rw [if_neg (by omega)]; exact h'
  refine Tot.ite (fun h' => ?_) (fun h' => ?_)
  · rw [Bool.or_eq_true, decide_eq_true_eq, decide_eq_true_eq] at h'
    refine Tot.bindq (bytestr_at_tot 4 (-4)) fun r hr => Tot.ret ?_
    subst hr
    rw [if_pos h']
  rw [Bool.or_eq_false_iff, decide_eq_false_iff_not, decide_eq_false_iff_not] at h'
  refine Tot.mono (Q := fun r => OccR b q f.toNat t.toNat last r.1 ∧ r.2 = (0, 0)) ?_ fun r h'' => by rw [if_neg (by omega)]; exact h''
  obtain ⟨f, rfl⟩ : ∃ n : Nat, f = n := ⟨f.toNat, by omega⟩
  obtain ⟨t, rfl⟩ : ∃ n : Nat, t = n := ⟨t.toNat, by omega⟩
  simp only [Int.toNat_natCast]
  have hx : sub b (f : Int) (t : Int) = some ((b.drop f).take (t - f)) := sub_nat rfl (by omega) (by omega)
  have hl : ((b.drop f).take (t - f)).length = t - f := by rw [List.length_take, List.length_drop]; omega
  refine Tot.bind0 hx (Tot.bindq (P := fun r => r = Lib.index ((b.drop f).take (t - f)) q) ?_ fun r hr => ?_)
  · unfold bytes_Index
    rw [if_pos ⟨by rw [hl]; omega, by omega⟩]
    exact Tot.ret rfl
  refine Tot.bindq (P := fun r => if last = true then Lst ((b.drop f).take (t - f)) q r else Fst ((b.drop f).take (t - f)) q r) ?_ fun j hj => ?_
  · refine Tot.ite (fun h => ?_) (fun h => Tot.ret ?_)
    · subst h
      exact Tot.bind0 hx (Tot.bindq (Last_tot (by rw [hl]; omega) hq) fun r hr => Tot.ret hr)
    · subst h
      rw [hr]
      exact index_fst _ _
  have hr : j ≥ 0 → j ≤ t - f := fun h => by
    have : Lst ((b.drop f).take (t - f)) q j ∨ Fst ((b.drop f).take (t - f)) q j := by
      cases last
      · exact .inr hj
      · exact .inl hj
    rcases this with (⟨e, _⟩ | ⟨i, e, h1, _⟩) | (⟨e, _⟩ | ⟨i, e, h1, _⟩)
    · omega
    · rw [hl] at h1; omega
    · omega
    · rw [hl] at h1; omega
  refine Tot.bindq (P := fun x => x = if j ≥ 0 then j + f else j) ?_ fun x hx' => Tot.ret ⟨⟨j, hj, hx'⟩, rfl⟩
  refine Tot.ite (fun o => Tot.ret ?_) (fun o => Tot.ret ?_)
  · have o : j ≥ 0 := of_decide_eq_true o
    have := hr o
    rw [if_pos o, i64_small (by omega) (by omega)]
  · rw [if_neg (of_decide_eq_false o)]
end Go.Gv.R
namespace Go.Gv.R
open Go Go.Gv Go.Gv.D Go.Lib

/-! the parts between places -/
def oI : Option Nat → Int
  | none => -1
  | some i => (i : Int)
theorem idx_first : ∀ (p q : List UInt8), Lib.index p q = oI (firstOcc (nats q) (nats p))
  | [], q => by
    cases q <;> rfl
  | c :: p, q => by
    have ih := idx_first p q
    show (if q.isPrefixOf (c :: p) then 0 else if Lib.index p q == -1 then -1 else Lib.index p q + 1) = oI (if (nats q).isPrefixOf (nats (c :: p)) = true then some 0 else (firstOcc (nats q) (nats p)).map (fun (n : Nat) => n + 1))
    rw [nats_pre]
    by_cases h : q.isPrefixOf (c :: p) = true
    · rw [if_pos h, if_pos h]; rfl
    · rw [if_neg h, if_neg h, ih]
      cases firstOcc (nats q) (nats p) with
      | none => rfl
      | some i =>
        show (if ((i : Int) == -1) = true then _ else _) = ((i + 1 : Nat) : Int)
        rw [if_neg (by rw [beq_eq_false_iff_ne.2 (by show ((i : Nat) : Int) ≠ -1; omega)]; simp)]; rfl
theorem split_none {q p : List UInt8} {k : Nat} (h : firstOcc (nats q) (nats p) = none) : Lib.splitK q 0 k p = [p] := by
  cases k with
  | zero => rfl
  | succ k =>
    have := idx_first p q
    rw [h] at this
    unfold Lib.splitK
    rw [this]; rfl
theorem split_some {q p : List UInt8} {k i : Nat} (h : firstOcc (nats q) (nats p) = some i) : Lib.splitK q 0 (k + 1) p = p.take i :: Lib.splitK q 0 k (p.drop (i + q.length)) := by
  have := idx_first p q
  rw [h] at this
  have this : Lib.index p q = (i : Int) := this
  show (if Lib.index p q == -1 then [p] else p.take ((Lib.index p q).toNat + 0) :: Lib.splitK q 0 k (p.drop ((Lib.index p q).toNat + q.length))) = _
  rw [this, if_neg (by rw [beq_eq_false_iff_ne.2 (by omega)]; simp)]
  rfl
theorem split_len {q : List UInt8} : ∀ (k : Nat) (p : List UInt8) (o : Nat), (Lib.splitK q 0 k p).length = (cutsK (nats q) k (nats p) o).length + 1
  | 0, _, _ => rfl
  | k + 1, p, o => by
    cases h : firstOcc (nats q) (nats p) with
    | none => rw [split_none h, cutsK_none h]; rfl
    | some i => rw [split_some h, cutsK_some h, List.length_cons, List.length_cons, nats_drop, nats_len, split_len k (p.drop (i + q.length)) (o + i + q.length)]
theorem lib_cons {w x : List UInt8} {l : List (List UInt8)} (h : l ≠ []) : Lib.join (x :: l) w = x ++ w ++ Lib.join l w := by
  cases l with
  | nil => exact absurd rfl h
  | cons y r => simp [Lib.join, List.intercalate]
theorem split_ne (q : List UInt8) (k : Nat) (p : List UInt8) : Lib.splitK q 0 k p ≠ [] := by
  intro e
  have := split_len (q := q) k p 0
  rw [e] at this; simp at this
theorem occ_bytes {q p : List UInt8} {i : Nat} (h : firstOcc (nats q) (nats p) = some i) : p = p.take i ++ q ++ p.drop (i + q.length) ∧ i + q.length ≤ p.length := by
  obtain ⟨h1, h2⟩ := occ_parts h
  rw [nats_len] at h2
  refine ⟨nats_inj ?_, by rwa [nats_len] at h2⟩
  rw [nats_take, nats_len, nats_drop] at h1
  rw [h1]
  simp [nats]
theorem join_split {q : List UInt8} : ∀ (k : Nat) (p : List UInt8), Lib.join (Lib.splitK q 0 k p) q = p
  | 0, p => by rw [show Lib.splitK q 0 0 p = [p] from rfl, join_one]
  | k + 1, p => by
    cases h : firstOcc (nats q) (nats p) with
    | none => rw [split_none h, join_one]
    | some i => rw [split_some h, lib_cons (split_ne q k _), join_split k, ← (occ_bytes h).1]
/-- how many cuts at most -/
def mostN (most : Int) : Nat := if most < 0 ∨ most > 4000 then 4000 else most.toNat
def SplitR (b q : List UInt8) (most : Int) (r : List (List UInt8) × Int × Int) : Prop :=
  if 4000 < b.length then r = ([], 3, -1) else if 4000 < q.length then r = ([], 3, -2) else if q = [] then r = ([], 10, -2) else
    if 1000 < (Lib.splitK q 0 (min (mostN most) b.length) b).length then r = ([], 2, -1) else r = (Lib.splitK q 0 (min (mostN most) b.length) b, 0, 0)
theorem split_mem {q : List UInt8} : ∀ (k : Nat) (p : List UInt8), ∀ x ∈ Lib.splitK q 0 k p, x.length ≤ p.length
  | 0, p, x, hx => by rw [List.mem_singleton.1 hx]; exact Nat.le_refl _
  | k + 1, p, x, hx => by
    cases hf : firstOcc (nats q) (nats p) with
    | none => rw [split_none hf] at hx; rw [List.mem_singleton.1 hx]; exact Nat.le_refl _
    | some i =>
      rw [split_some hf] at hx
      rcases List.mem_cons.1 hx with e | e
      · rw [e, List.length_take]; omega
      · have := split_mem k _ x e
        rw [List.length_drop] at this; omega
theorem Split_tot {b q : List UInt8} (most : Int) (hb : b.length ≤ 1048576) (hq : q.length ≤ 1048576) : Tot (fun fuel => bytestr_Split fuel b q most) (SplitR b q most) := by
  unfold bytestr_Split
  refine Tot.bindq (check2_tot b q hb hq) fun r hr => ?_
  unfold SplitR
  by_cases h1 : 4000 < b.length
  · rw [if_pos h1] at hr; subst hr
    exact Tot.it rfl (Tot.ret (by rw [if_pos h1]))
  rw [if_neg h1] at hr
  by_cases h2 : 4000 < q.length
  · rw [if_pos h2] at hr; subst hr
    exact Tot.it rfl (Tot.ret (by rw [if_neg h1, if_pos h2]))
  rw [if_neg h2] at hr; subst hr
  refine Tot.if_ rfl ?_
  refine Tot.ite (fun h => ?_) (fun h => ?_)
  · have h : q = [] := List.eq_nil_of_length_eq_zero (by have := beq_iff_eq.1 h; omega)
    refine Tot.bindq (bytestr_at_tot 10 (-2)) fun r hr => Tot.ret ?_
    subst hr
    rw [if_neg h1, if_neg h2, if_pos h]
  have hne : q ≠ [] := fun e => by rw [e] at h; simp at h
  have hq1 := List.length_pos_iff.2 hne
  have hm4 : mostN most ≤ 4000 := by unfold mostN; split <;> omega
  refine Tot.bindq (P := fun j => j = (mostN most : Int)) ?_ fun j hj => ?_
  · unfold mostN
    refine Tot.ite (fun o => Tot.ret ?_) (fun o => Tot.ret ?_)
    · rw [Bool.or_eq_true, decide_eq_true_eq, decide_eq_true_eq] at o
      rw [if_pos o]; rfl
    · rw [Bool.or_eq_false_iff, decide_eq_false_iff_not, decide_eq_false_iff_not] at o
      rw [if_neg (by omega)]; omega
  subst hj
  rw [iw (x := (mostN most : Int) + 1) (n := mostN most + 1) (by omega) (by omega)]
  have hk : min (mostN most + 1) (b.length + 1) - 1 = min (mostN most) b.length := by omega
  refine Tot.bindq (P := fun r => r = Lib.splitK q 0 (min (mostN most) b.length) b) ?_ fun P hP => ?_
  · unfold bytes_SplitN
    rw [if_pos ⟨(by omega), hq1, (by omega), (by omega), (by omega)⟩, Int.toNat_natCast, hk]
    exact Tot.ret rfl
  refine Tot.mono (Q := fun r => if 1000 < P.length then r = ([], 2, -1) else r = (P, 0, 0)) ?_ fun r h => by rw [if_neg h1, if_neg h2, if_neg hne, ← hP]; exact h
  have hPl : P.length ≤ 4001 := by
    rw [hP, split_len _ _ 0]
    have := (cuts_le (q := nats q) (fun e => hne (nats_inj (b := []) e)) (min (mostN most) b.length) (nats b) 0).1
    omega
  have hPm : ∀ x ∈ P, x.length ≤ 4000 := fun x hx => by
    rw [hP] at hx
    have := split_mem _ _ x hx
    omega
  clear hP hk
  refine Tot.bindq (P := fun r => if 1000 < P.length then r = .inr ([], 2, -1) else r = .inl (P, 0, 0)) ?_ fun r hr => ?_
  · refine Tot.loop (fun st => ∃ i : Nat, i ≤ P.length ∧ i ≤ 1000 ∧ st = (P.take i, (i : Int), (0, 0))) (fun st => P.length - st.2.1.toNat) ⟨0, Nat.zero_le _, Nat.zero_le _, rfl⟩ fun st ⟨i, hi, hi2, e⟩ => ?_
    subst e
    dsimp only
    refine Tot.ite (fun h => ?_) (fun h => ?_)
    · have h : i < P.length := by have : (i : Int) < (P.length : Int) := of_decide_eq_true h; omega
      have hx := hPm P[i] (List.getElem_mem h)
      refine Tot.bind0 (idx_nat h) (Tot.ite (fun o => ?_) (fun o => ?_))
      · have o : (P.take i).length = 1000 := by have := beq_iff_eq.1 o; omega
        rw [List.length_take] at o
        refine Tot.bindq (bytestr_at_tot 2 (-1)) fun r hr => Tot.ret ?_
        subst hr
        show if _ then _ else _
        rw [if_pos (by omega)]
      · have o : (P.take i).length ≠ 1000 := fun e => by rw [e] at o; simp at o
        rw [List.length_take] at o
        refine Tot.bindq (P := fun r => r = P[i]) ?_ fun r hr => ?_
        · unfold bytes_Clone
          exact Tot.bind0 (app_ok (by simp; omega)) (Tot.ret (List.nil_append _))
        subst hr
        refine Tot.bind0 (app_ok (by rw [List.length_take]; simp; omega)) (Tot.ret ⟨⟨i + 1, h, by omega, ?_⟩, ?_⟩)
        · rw [take_snoc h, i64_small (by omega) (by omega)]; rfl
        · show P.length - (IntKind.i64.wrap ((i : Int) + 1)).toNat < P.length - ((i : Nat) : Int).toNat
          rw [i64_small (by omega) (by omega)]; omega
    · have h : ¬ (i : Int) < (P.length : Int) := of_decide_eq_false h
      obtain rfl : i = P.length := by omega
      refine Tot.ret ?_
      show if _ then _ else _
      rw [if_neg (by omega), List.take_length]
  · by_cases h : 1000 < P.length
    · rw [if_pos h] at hr
      subst hr
      exact Tot.contr (by rw [if_pos h])
    · rw [if_neg h] at hr
      subst hr
      exact Tot.contl (Tot.ret (by rw [if_neg h]))
theorem FirstOf_tot {b q : List UInt8} (hb : b.length ≤ 4000) (hne : nats q ≠ []) (most : Int) : Tot (fun fuel => ref4_FirstOf fuel (ints (cutsK (nats q) (nats b).length (nats b) 0)) most) (· = ints (cutsK (nats q) (min (mostN most) b.length) (nats b) 0)) := by
  unfold ref4_FirstOf
  rw [ints_len, nats_len]
  have hL := cuts_le hne b.length (nats b) 0
  have ht : ∀ k, k ≤ b.length → (cutsK (nats q) b.length (nats b) 0).take k = cutsK (nats q) k (nats b) 0 := fun k hk => cuts_take k b.length (nats b) 0 hk
  refine Tot.ite (fun h => ?_) (fun h => Tot.ret ?_)
  · rw [Bool.and_eq_true, decide_eq_true_eq, decide_eq_true_eq] at h
    obtain ⟨m, rfl⟩ : ∃ n : Nat, most = n := ⟨most.toNat, by omega⟩
    have hm : mostN (m : Int) = m := by unfold mostN; rw [if_neg (by omega)]; rfl
    rw [hm, Nat.min_eq_left (by omega)]
    refine Tot.bind0 (sub_nat (a := 0) (n := m) rfl (by omega) (by rw [ints_len]; omega)) (Tot.ret ?_)
    rw [List.drop_zero, ← ht m (by omega)]
    simp [ints]
  · rw [Bool.and_eq_false_iff, decide_eq_false_iff_not, decide_eq_false_iff_not] at h
    congr 1
    rcases Nat.le_total b.length (mostN most) with hc | hc
    · rw [Nat.min_eq_right hc]
    · rw [Nat.min_eq_left hc, ← ht _ hc]
      by_cases e : mostN most = b.length
      · rw [e, List.take_of_length_le (by omega)]
      · rw [List.take_of_length_le]
        unfold mostN at hc e ⊢
        split at hc <;> rename_i hm
        · rw [if_pos hm] at e; omega
        · rw [if_neg hm] at e ⊢
          omega
end Go.Gv.R
namespace Go.Gv.R
open Go Go.Gv Go.Gv.D Go.Lib

theorem lens_of_join {P : List (List UInt8)} {q b : List UInt8} (h : Lib.join P q = b) : lens P ≤ b.length := by
  have := join_len P q
  rw [h] at this; omega
theorem beq2 {x y : Int × Int} (h : x = y) : ((x.1 == y.1) && (x.2 == y.2)) = true := by subst h; simp
set_option maxHeartbeats 1000000 in
theorem Parts_tot {b q : List UInt8} (f t : Int) (last : Bool) (most : Int) (hb : b.length ≤ 1048576) (hq : q.length ≤ 1048576) : Tot (fun fuel => law4_BytestrParts fuel b q f t last most) (· = true) := by
  unfold law4_BytestrParts
  refine Tot.bindq (Find_tot f t last hb hq) fun r1 hF => Tot.bindq (Split_tot most hb hq) fun r2 hS => ?_
  unfold FindR at hF
  unfold SplitR at hS
  have hJ : r2.1.length ≤ 1048576 ∧ lens r2.1 ≤ 1048576 := by
    by_cases h1 : 4000 < b.length
    · rw [if_pos h1] at hS; subst hS; exact ⟨Nat.zero_le _, Nat.zero_le _⟩
    rw [if_neg h1] at hS
    by_cases h2 : 4000 < q.length
    · rw [if_pos h2] at hS; subst hS; exact ⟨Nat.zero_le _, Nat.zero_le _⟩
    rw [if_neg h2] at hS
    by_cases h3 : q = []
    · rw [if_pos h3] at hS; subst hS; exact ⟨Nat.zero_le _, Nat.zero_le _⟩
    rw [if_neg h3] at hS
    by_cases h4 : 1000 < (Lib.splitK q 0 (min (mostN most) b.length) b).length
    · rw [if_pos h4] at hS; subst hS; exact ⟨Nat.zero_le _, Nat.zero_le _⟩
    · rw [if_neg h4] at hS; subst hS
      have := lens_of_join (join_split (q := q) (min (mostN most) b.length) b)
      refine ⟨?_, ?_⟩
      · show (Lib.splitK q 0 (min (mostN most) b.length) b).length ≤ _
        omega
      · show lens (Lib.splitK q 0 (min (mostN most) b.length) b) ≤ _
        omega
  refine Tot.bindq (Join_tot hJ.1 hq hJ.2) fun r3 hA => Tot.bindq bytesOf_tot fun ok hok => ?_
  subst hok
  refine Tot.if_ rfl ?_
  refine Tot.bindq (P := fun w => w = if 4000 < b.length then (3, -1) else if 4000 < q.length then (3, -2) else (0, 0)) ?_ fun w hw => ?_
  · refine Tot.ite (fun h => ?_) (fun h => ?_)
    · have h : ((b.length : Nat) : Int) > 4000 := of_decide_eq_true h
      refine Tot.bindq (at_tot 3 (-1)) fun r hr => Tot.ret ?_
      subst hr
      rw [if_pos (by omega)]
    · have h : ¬ ((b.length : Nat) : Int) > 4000 := of_decide_eq_false h
      refine Tot.mono (Q := fun w => w = if 4000 < q.length then (3, -2) else (0, 0)) ?_ fun r h' => by rw [if_neg (by omega)]; exact h'
      refine Tot.ite (fun h => ?_) (fun h => Tot.ret ?_)
      · have h : ((q.length : Nat) : Int) > 4000 := of_decide_eq_true h
        refine Tot.bindq (at_tot 3 (-2)) fun r hr => Tot.ret ?_
        subst hr
        rw [if_pos (by omega)]
      · have h : ¬ ((q.length : Nat) : Int) > 4000 := of_decide_eq_false h
        rw [if_neg (by omega)]
  -- too long
  have fault : ∀ {w : Int × Int}, w.1 ≠ 0 → r1 = (0, w) → r2 = ([], w) → Tot (fun (fuel : Nat) => (Option.bind (if ((r1.2.1 == w.1) && (r1.2.2 == w.2)) then (if ((r2.2.1 == w.1) && (r2.2.2 == w.2)) then (if (r1.1 == 0) then (if (((List.length r2.1 : Nat) : Int) == 0) then (some ((((List.length r3.1 : Nat) : Int) == 0))) else (some (false))) else (some (false))) else (some (false))) else (some (false))) fun (j252 : Bool) => (some (j252)))) (· = true) := fun {w} h0 e1 e2 => by
    subst e1 e2
    rw [if_neg (by show ¬ 4000 < (Lib.join [] q).length; simp [Lib.join])] at hA
    subst hA
    refine Tot.bindq (P := fun x => x = true) ?_ fun x hx => Tot.ret hx
    exact Tot.it (beq2 rfl) (Tot.it (beq2 rfl) (Tot.it rfl (Tot.it rfl (Tot.ret rfl))))
  by_cases h1 : 4000 < b.length
  · rw [if_pos h1] at hw hF hS
    subst hw
    exact Tot.it rfl (fault (by decide) hF hS)
  rw [if_neg h1] at hw hF hS
  by_cases h2 : 4000 < q.length
  · rw [if_pos h2] at hw hF hS
    subst hw
    exact Tot.it rfl (fault (by decide) hF hS)
  rw [if_neg h2] at hw hF hS
  clear fault
  subst hw
  refine Tot.if_ rfl (Tot.bindq (codes_tot hb) fun x hx => Tot.bindq (codes_tot hq) fun y hy => ?_)
  subst hx hy
  refine Tot.bindq (P := fun w => w = if f < 0 ∨ f > b.length then (4, -3) else if t < f ∨ t > b.length then (4, -4) else (0, 0)) ?_ fun w hw => ?_
  · refine Tot.ite (fun h => ?_) (fun h => ?_)
    · rw [Bool.or_eq_true, decide_eq_true_eq, decide_eq_true_eq] at h
      refine Tot.bindq (at_tot 4 (-3)) fun r hr => Tot.ret ?_
      subst hr
      rw [if_pos h]
    · rw [Bool.or_eq_false_iff, decide_eq_false_iff_not, decide_eq_false_iff_not] at h
      refine Tot.mono (Q := fun w => w = if t < f ∨ t > b.length then (4, -4) else (0, 0)) ?_ fun r h' => by rw [if_neg (by omega)]; exact h'
      refine Tot.ite (fun h => ?_) (fun h => Tot.ret ?_)
      · rw [Bool.or_eq_true, decide_eq_true_eq, decide_eq_true_eq] at h
        refine Tot.bindq (at_tot 4 (-4)) fun r hr => Tot.ret ?_
        subst hr
        rw [if_pos h]
      · rw [Bool.or_eq_false_iff, decide_eq_false_iff_not, decide_eq_false_iff_not] at h
        rw [if_neg (by omega)]
  refine Tot.bindq (P := fun j => j = false) ?_ fun j hj => ?_
  · by_cases h3 : f < 0 ∨ f > b.length
    · rw [if_pos h3] at hw hF
      subst hw hF
      exact Tot.if_ rfl (Tot.it rfl (Tot.if_ rfl (Tot.if_ rfl (Tot.ret rfl))))
    rw [if_neg h3] at hw hF
    by_cases h4 : t < f ∨ t > b.length
    · rw [if_pos h4] at hw hF
      subst hw hF
      exact Tot.if_ rfl (Tot.it rfl (Tot.if_ rfl (Tot.if_ rfl (Tot.ret rfl))))
    rw [if_neg h4] at hw hF
    subst hw
    obtain ⟨f, rfl⟩ : ∃ n : Nat, f = n := ⟨f.toNat, by omega⟩
    obtain ⟨t, rfl⟩ : ∃ n : Nat, t = n := ⟨t.toNat, by omega⟩
    simp only [Int.toNat_natCast] at hF
    refine Tot.if_ (by rw [hF.2]; rfl) (Tot.if_ rfl (Tot.it rfl (Tot.bindq (Occurs_tot hb hq (by omega) (by omega)) fun r hr => Tot.ret ?_)))
    rw [occR_uni hF.1 hr]; simp
  subst hj
  refine Tot.if_ rfl ?_
  refine Tot.ite (fun h => ?_) (fun h => ?_)
  · have h : q = [] := List.eq_nil_of_length_eq_zero (by have := beq_iff_eq.1 h; omega)
    rw [if_pos h] at hS
    subst hS
    refine Tot.bindq (P := fun j => j = true) (Tot.bindq (at_tot 10 (-2)) fun r hr => ?_) fun j hj => Tot.ret hj
    subst hr
    exact Tot.it rfl (Tot.ret rfl)
  have hne : q ≠ [] := fun e => by rw [e] at h; simp at h
  rw [if_neg hne] at hS
  have hne' : nats q ≠ [] := fun e => hne (nats_inj (b := []) e)
  refine Tot.bindq (Places_tot hne' (by rw [nats_len]; omega) (by rw [nats_len]; omega)) fun r hr => ?_
  subst hr
  refine Tot.bindq (FirstOf_tot (by omega) hne' most) fun r hr => ?_
  subst hr
  have hlen := split_len (q := q) (min (mostN most) b.length) b 0
  have hjoin := join_split (q := q) (min (mostN most) b.length) b
  rw [ints_len]
  refine Tot.ite (fun h => ?_) (fun h => ?_)
  · have h : (((cutsK (nats q) (min (mostN most) b.length) (nats b) 0).length : Nat) : Int) ≥ 1000 := of_decide_eq_true h
    rw [if_pos (by omega)] at hS
    subst hS
    refine Tot.bindq (P := fun j => j = true) (Tot.bindq (at_tot 2 (-1)) fun r hr => ?_) fun j hj => Tot.ret hj
    subst hr
    exact Tot.it rfl (Tot.ret rfl)
  have h : ¬ (((cutsK (nats q) (min (mostN most) b.length) (nats b) 0).length : Nat) : Int) ≥ 1000 := of_decide_eq_false h
  rw [if_neg (by omega)] at hS
  subst hS
  have hA : r3 = (b, 0, 0) := by
    rw [hA]
    show (if 4000 < (Lib.join (Lib.splitK q 0 (min (mostN most) b.length) b) q).length then _ else (Lib.join (Lib.splitK q 0 (min (mostN most) b.length) b) q, _)) = _
    rw [hjoin, if_neg (by omega)]
  subst hA
  dsimp only
  refine Tot.bindq (P := fun j => j = false) ?_ fun j hj => ?_
  · refine Tot.if_ rfl (Tot.if_ rfl (Tot.if_ ?_ (Tot.bindq (SameBytes_tot b b) fun r hr => Tot.ret (by rw [hr]; simp))))
    rw [hlen, i64_small (by omega) (by omega)]
    simp
  subst hj
  refine Tot.if_ rfl ?_
  generalize hM : min (mostN most) b.length = M at hlen h ⊢
  generalize hP : Lib.splitK q 0 M b = P at hlen ⊢
  generalize hC : cutsK (nats q) M (nats b) 0 = C at hlen h ⊢
  have hq1 := List.length_pos_iff.2 hne
  refine Tot.bindq (P := fun r => r = .inl ()) ?_ fun r hr => by subst hr; exact Tot.contl (Tot.ret rfl)
  refine Tot.loop (fun st => (∃ (i at_ k : Nat), st = ((at_ : Int), (i : Int)) ∧ i < P.length ∧ at_ ≤ b.length ∧ P.drop i = Lib.splitK q 0 k (b.drop at_) ∧ C.drop i = cutsK (nats q) k (nats (b.drop at_)) at_) ∨ st.2 = (P.length : Int)) (fun st => P.length - st.2.toNat) (.inl ⟨0, 0, M, rfl, by omega, Nat.zero_le _, by rw [List.drop_zero, List.drop_zero, hP], by rw [List.drop_zero, List.drop_zero, hC]⟩) fun st hst => ?_
  rcases hst with ⟨i, at_, k, e, hi, hat, hPi, hCi⟩ | e
  · subst e
    dsimp only
    refine Tot.it (decide_eq_true (by omega)) ?_
    rw [List.drop_eq_getElem_cons hi] at hPi
    -- no cut further, or one
    have key : ((C.length ≤ i) ∧ P[i] = b.drop at_ ∧ i + 1 = P.length) ∨ ∃ j k', C[i]? = some (at_ + j) ∧ at_ + j + q.length ≤ b.length ∧ P[i] = (b.drop at_).take j ∧ P.drop (i + 1) = Lib.splitK q 0 k' (b.drop (at_ + j + q.length)) ∧ C.drop (i + 1) = cutsK (nats q) k' (nats (b.drop (at_ + j + q.length))) (at_ + j + q.length) ∧ i + 1 < P.length := by
      have none' : P[i] :: P.drop (i + 1) = [b.drop at_] → C.drop i = [] → ((C.length ≤ i) ∧ P[i] = b.drop at_ ∧ i + 1 = P.length) := fun e1 e2 => by
        injection e1 with e1 e3
        have := congrArg List.length e3
        rw [List.length_drop] at this
        have h2 := congrArg List.length e2
        rw [List.length_drop] at h2
        simp at this h2
        exact ⟨by omega, e1, by omega⟩
      cases k with
      | zero => exact .inl (none' hPi hCi)
      | succ k =>
        cases hf : firstOcc (nats q) (nats (b.drop at_)) with
        | none => rw [split_none hf] at hPi; rw [cutsK_none hf] at hCi; exact .inl (none' hPi hCi)
        | some j =>
          rw [split_some hf] at hPi
          rw [cutsK_some hf] at hCi
          have ho := (occ_bytes hf).2
          rw [List.length_drop] at ho
          injection hPi with e1 e2
          have hci : i < C.length := by
            have := congrArg List.length hCi
            rw [List.length_drop, List.length_cons] at this; omega
          rw [List.drop_eq_getElem_cons hci] at hCi
          injection hCi with e3 e4
          rw [List.drop_drop] at e2
          rw [nats_drop, List.drop_drop, nats_len] at e4
          refine .inr ⟨j, k, by rw [List.getElem?_eq_getElem hci, e3], by omega, e1, by rw [e2, Nat.add_assoc], by rw [e4, Nat.add_assoc], by omega⟩
    rcases key with ⟨c1, c2, c3⟩ | ⟨j, k', c1, c2, c3, c4, c5, c6⟩
    · refine Tot.bindq (P := fun e => e = (b.length : Int)) (Tot.if_ (decide_eq_false (by omega)) (Tot.ret rfl)) fun e he => ?_
      subst he
      refine Tot.bind0 (idx_nat hi) (Tot.bind0 (sub_nat (a := at_) (n := b.length - at_) rfl (by omega) (by omega)) (Tot.bindq (SameBytes_tot _ _) fun r hr => ?_))
      rw [c2, List.take_of_length_le (by rw [List.length_drop]; omega), decide_eq_true rfl] at hr
      subst hr
      refine Tot.if_ rfl (Tot.some_bind (Tot.ret ⟨.inr ?_, ?_⟩))
      · rw [i64_small (x := (i : Int) + 1) (by omega) (by omega)]; show (i : Int) + 1 = _; omega
      · show P.length - (IntKind.i64.wrap ((i : Int) + 1)).toNat < P.length - ((i : Nat) : Int).toNat
        rw [i64_small (by omega) (by omega)]; omega
    · obtain ⟨hci, hcj⟩ := List.getElem?_eq_some_iff.1 c1
      refine Tot.bindq (P := fun e => e = ((at_ + j : Nat) : Int)) (Tot.it (decide_eq_true (by omega)) (Tot.bind0 (ints_get hci) (Tot.ret (by rw [hcj])))) fun e he => ?_
      subst he
      refine Tot.bind0 (idx_nat hi) (Tot.bind0 (sub_nat (a := at_) (n := j) rfl rfl (by omega)) (Tot.bindq (SameBytes_tot _ _) fun r hr => ?_))
      rw [c3, decide_eq_true rfl] at hr
      subst hr
      refine Tot.if_ rfl (Tot.some_bind (Tot.ret ⟨.inl ⟨i + 1, at_ + j + q.length, k', ?_, c6, c2, c4, c5⟩, ?_⟩))
      · rw [i64_small (x := (i : Int) + 1) (by omega) (by omega), i64_small (x := ((at_ + j : Nat) : Int) + ((q.length : Nat) : Int)) (by omega) (by omega)]
        rfl
      · show P.length - (IntKind.i64.wrap ((i : Int) + 1)).toNat < P.length - ((i : Nat) : Int).toNat
        rw [i64_small (by omega) (by omega)]; omega
  · refine Tot.if_ (decide_eq_false (by rw [e]; omega)) (Tot.ret rfl)
theorem BytestrParts_said (b q : List UInt8) (f t : Int) (last : Bool) (most : Int) (_ : (∀ x ∈ b, (fun _ => True) x) ∧ b.length ≤ maxLen) (_ : (∀ x ∈ q, (fun _ => True) x) ∧ q.length ≤ maxLen) (_ : inK .i64 f) (_ : inK .i64 t) (_ : True) (_ : inK .i64 most)
    (h : sumL (fun _ => 1) b + (sumL (fun _ => 1) q + (1 + (1 + (1 + 1)))) ≤ 1048576) : Tot (fun fuel => law4_BytestrParts fuel b q f t last most) (fun r => r = true) := by
  have h1 := sumL_one b
  have h2 := sumL_one q
  exact Parts_tot f t last most (by omega) (by omega)
end Go.Gv.R

