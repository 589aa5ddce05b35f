import Derived.Test.YtkmcegicngjhbaaDoorM2
set_option linter.all false
namespace Go.Gv.R
open Go Go.Gv Go.Gv.D Go.Lib

/-! letters: small and capital -/
def S32 (c : Nat) : Prop := (97 ≤ c ∧ c ≤ 122) ∨ (224 ≤ c ∧ c ≤ 246) ∨ (248 ≤ c ∧ c ≤ 254) ∨ (945 ≤ c ∧ c ≤ 961) ∨ (963 ≤ c ∧ c ≤ 969) ∨ (1072 ≤ c ∧ c ≤ 1103)
def C32 (c : Nat) : Prop := (65 ≤ c ∧ c ≤ 90) ∨ (192 ≤ c ∧ c ≤ 214) ∨ (216 ≤ c ∧ c ≤ 222) ∨ (913 ≤ c ∧ c ≤ 929) ∨ (931 ≤ c ∧ c ≤ 937) ∨ (1040 ≤ c ∧ c ≤ 1071)
instance (c : Nat) : Decidable (S32 c) := by unfold S32; exact inferInstance
instance (c : Nat) : Decidable (C32 c) := by unfold C32; exact inferInstance
def upN (c : Nat) : Nat := if S32 c then 32 else if 1104 ≤ c ∧ c ≤ 1119 then 80 else 0
def dnN (c : Nat) : Nat := if C32 c then 32 else if 1024 ≤ c ∧ c ≤ 1039 then 80 else 0
def clsN (c : Nat) : Nat := if 0 < upN c then 2 else if 0 < dnN c then 1 else if 48 ≤ c ∧ c ≤ 57 then 4 else if blankN c = true then 8 else 16
def othN (c : Nat) : Nat := c - upN c + dnN c

/-- a letter is small, capital, or none -/
theorem kinds (c : Nat) : (∃ d, (d = 32 ∨ d = 80) ∧ upN c = d ∧ dnN c = 0 ∧ dnN (c - d) = d ∧ upN (c - d) = 0 ∧ 97 ≤ c ∧ c ≤ 1119 ∧ (c ≤ 122 ∨ 224 ≤ c) ∧ d ≤ c) ∨
    (∃ d, (d = 32 ∨ d = 80) ∧ dnN c = d ∧ upN c = 0 ∧ upN (c + d) = d ∧ dnN (c + d) = 0 ∧ 65 ≤ c ∧ c ≤ 1071 ∧ ((c ≤ 90 ∧ d = 32) ∨ 192 ≤ c)) ∨ (upN c = 0 ∧ dnN c = 0) := by
  by_cases h1 : S32 c
  · refine .inl ⟨32, .inl rfl, ?_, ?_, ?_, ?_, ?_⟩
    · unfold upN; rw [if_pos h1]
    · unfold dnN; rw [if_neg (by unfold C32; unfold S32 at h1; omega), if_neg (by unfold S32 at h1; omega)]
    · unfold dnN; rw [if_pos (by unfold C32; unfold S32 at h1; omega)]
    · unfold upN; rw [if_neg (by unfold S32; unfold S32 at h1; omega), if_neg (by unfold S32 at h1; omega)]
    · unfold S32 at h1; omega
  · by_cases h2 : 1104 ≤ c ∧ c ≤ 1119
    · refine .inl ⟨80, .inr rfl, ?_, ?_, ?_, ?_, ?_⟩
      · unfold upN; rw [if_neg h1, if_pos h2]
      · unfold dnN; rw [if_neg (by unfold C32; omega), if_neg (by omega)]
      · unfold dnN; rw [if_neg (by unfold C32; omega), if_pos (by omega)]
      · unfold upN; rw [if_neg (by unfold S32; omega), if_neg (by omega)]
      · omega
    · by_cases h3 : C32 c
      · refine .inr (.inl ⟨32, .inl rfl, ?_, ?_, ?_, ?_, ?_⟩)
        · unfold dnN; rw [if_pos h3]
        · unfold upN; rw [if_neg h1, if_neg h2]
        · unfold upN; rw [if_pos (by unfold S32; unfold C32 at h3; omega)]
        · unfold dnN; rw [if_neg (by unfold C32; unfold C32 at h3; omega), if_neg (by unfold C32 at h3; omega)]
        · unfold C32 at h3; omega
      · by_cases h4 : 1024 ≤ c ∧ c ≤ 1039
        · refine .inr (.inl ⟨80, .inr rfl, ?_, ?_, ?_, ?_, ?_⟩)
          · unfold dnN; rw [if_neg h3, if_pos h4]
          · unfold upN; rw [if_neg h1, if_neg h2]
          · unfold upN; rw [if_neg (by unfold S32; omega), if_pos (by omega)]
          · unfold dnN; rw [if_neg (by unfold C32; omega), if_neg (by omega)]
          · omega
        · refine .inr (.inr ⟨?_, ?_⟩)
          · unfold upN; rw [if_neg h1, if_neg h2]
          · unfold dnN; rw [if_neg h3, if_neg h4]

def pairsL : List (Int × Int × Int) := [(97, 122, 32), (224, 246, 32), (248, 254, 32), (945, 961, 32), (963, 969, 32), (1072, 1103, 32), (1104, 1119, 80)]
/-- none of the first i pairs has c -/
def noPair (c : Nat) (i : Nat) : Prop := (1 ≤ i → ¬ (97 ≤ c ∧ c ≤ 122) ∧ ¬ (65 ≤ c ∧ c ≤ 90)) ∧ (2 ≤ i → ¬ (224 ≤ c ∧ c ≤ 246) ∧ ¬ (192 ≤ c ∧ c ≤ 214)) ∧ (3 ≤ i → ¬ (248 ≤ c ∧ c ≤ 254) ∧ ¬ (216 ≤ c ∧ c ≤ 222)) ∧
  (4 ≤ i → ¬ (945 ≤ c ∧ c ≤ 961) ∧ ¬ (913 ≤ c ∧ c ≤ 929)) ∧ (5 ≤ i → ¬ (963 ≤ c ∧ c ≤ 969) ∧ ¬ (931 ≤ c ∧ c ≤ 937)) ∧ (6 ≤ i → ¬ (1072 ≤ c ∧ c ≤ 1103) ∧ ¬ (1040 ≤ c ∧ c ≤ 1071)) ∧ (7 ≤ i → ¬ (1104 ≤ c ∧ c ≤ 1119) ∧ ¬ (1024 ≤ c ∧ c ≤ 1039))
/-- the pair at place i: bounds and distance -/
theorem pair_at {c i : Nat} (hi : i < 7) (hn : noPair c i) : ∃ a b d : Nat, pairsL[i]? = some ((a : Int), (b : Int), (d : Int)) ∧ d ≤ a ∧ a ≤ 1200 ∧ b ≤ 1200 ∧ d ≤ b ∧
    ((a ≤ c ∧ c ≤ b) → upN c = d ∧ dnN c = 0 ∧ 0 < d) ∧ ((a ≤ c + d ∧ c + d ≤ b) → dnN c = d ∧ upN c = 0 ∧ 0 < d) ∧ (¬ (a ≤ c ∧ c ≤ b) → ¬ (a ≤ c + d ∧ c + d ≤ b) → noPair c (i + 1)) := by
  unfold noPair at hn ⊢
  rcases (show i = 0 ∨ i = 1 ∨ i = 2 ∨ i = 3 ∨ i = 4 ∨ i = 5 ∨ i = 6 by omega) with e | e | e | e | e | e | e <;> subst e
  · refine ⟨97, 122, 32, rfl, by omega, by omega, by omega, by omega, fun h => ⟨?_, ?_, by omega⟩, fun h => ⟨?_, ?_, by omega⟩, fun h1 h2 => by omega⟩
    · unfold upN; rw [if_pos (by unfold S32; omega)]
    · unfold dnN; rw [if_neg (by unfold C32; omega), if_neg (by omega)]
    · unfold dnN; rw [if_pos (by unfold C32; omega)]
    · unfold upN; rw [if_neg (by unfold S32; omega), if_neg (by omega)]
  · refine ⟨224, 246, 32, rfl, by omega, by omega, by omega, by omega, fun h => ⟨?_, ?_, by omega⟩, fun h => ⟨?_, ?_, by omega⟩, fun h1 h2 => by omega⟩
    · unfold upN; rw [if_pos (by unfold S32; omega)]
    · unfold dnN; rw [if_neg (by unfold C32; omega), if_neg (by omega)]
    · unfold dnN; rw [if_pos (by unfold C32; omega)]
    · unfold upN; rw [if_neg (by unfold S32; omega), if_neg (by omega)]
  · refine ⟨248, 254, 32, rfl, by omega, by omega, by omega, by omega, fun h => ⟨?_, ?_, by omega⟩, fun h => ⟨?_, ?_, by omega⟩, fun h1 h2 => by omega⟩
    · unfold upN; rw [if_pos (by unfold S32; omega)]
    · unfold dnN; rw [if_neg (by unfold C32; omega), if_neg (by omega)]
    · unfold dnN; rw [if_pos (by unfold C32; omega)]
    · unfold upN; rw [if_neg (by unfold S32; omega), if_neg (by omega)]
  · refine ⟨945, 961, 32, rfl, by omega, by omega, by omega, by omega, fun h => ⟨?_, ?_, by omega⟩, fun h => ⟨?_, ?_, by omega⟩, fun h1 h2 => by omega⟩
    · unfold upN; rw [if_pos (by unfold S32; omega)]
    · unfold dnN; rw [if_neg (by unfold C32; omega), if_neg (by omega)]
    · unfold dnN; rw [if_pos (by unfold C32; omega)]
    · unfold upN; rw [if_neg (by unfold S32; omega), if_neg (by omega)]
  · refine ⟨963, 969, 32, rfl, by omega, by omega, by omega, by omega, fun h => ⟨?_, ?_, by omega⟩, fun h => ⟨?_, ?_, by omega⟩, fun h1 h2 => by omega⟩
    · unfold upN; rw [if_pos (by unfold S32; omega)]
    · unfold dnN; rw [if_neg (by unfold C32; omega), if_neg (by omega)]
    · unfold dnN; rw [if_pos (by unfold C32; omega)]
    · unfold upN; rw [if_neg (by unfold S32; omega), if_neg (by omega)]
  · refine ⟨1072, 1103, 32, rfl, by omega, by omega, by omega, by omega, fun h => ⟨?_, ?_, by omega⟩, fun h => ⟨?_, ?_, by omega⟩, fun h1 h2 => by omega⟩
    · unfold upN; rw [if_pos (by unfold S32; omega)]
    · unfold dnN; rw [if_neg (by unfold C32; omega), if_neg (by omega)]
    · unfold dnN; rw [if_pos (by unfold C32; omega)]
    · unfold upN; rw [if_neg (by unfold S32; omega), if_neg (by omega)]
  · refine ⟨1104, 1119, 80, rfl, by omega, by omega, by omega, by omega, fun h => ⟨?_, ?_, by omega⟩, fun h => ⟨?_, ?_, by omega⟩, fun h1 h2 => by omega⟩
    · unfold upN; rw [if_neg (by unfold S32; omega), if_pos (by omega)]
    · unfold dnN; rw [if_neg (by unfold C32; omega), if_neg (by omega)]
    · unfold dnN; rw [if_neg (by unfold C32; omega), if_pos (by omega)]
    · unfold upN; rw [if_neg (by unfold S32; omega), if_neg (by omega)]
theorem noPair_end {c : Nat} (h : noPair c 7) : upN c = 0 ∧ dnN c = 0 := by
  unfold noPair at h
  refine ⟨?_, ?_⟩
  · unfold upN; rw [if_neg (by unfold S32; omega), if_neg (by omega)]
  · unfold dnN; rw [if_neg (by unfold C32; omega), if_neg (by omega)]

theorem shift_tot {c : Nat} (hc : c ≤ 1114111) : Tot (fun n => textstr_shift n (c : Int)) (fun r => r = ((upN c : Int), (dnN c : Int))) := by
  unfold textstr_shift textstr_pairs
  refine Tot.bind0 (a := pairsL) rfl ?_
  refine Tot.bindq (P := fun r => r = .inr ((upN c : Int), (dnN c : Int)) ∨ (r = .inl () ∧ upN c = 0 ∧ dnN c = 0)) ?_ fun r hr => ?_
  · refine Tot.loop (fun (st : Int) => ∃ i : Nat, st = (i : Int) ∧ i ≤ 7 ∧ noPair c i) (fun (st : Int) => 7 - st.toNat) ⟨0, rfl, by omega, by unfold noPair; omega⟩ fun st ⟨i, e, hi, hn⟩ => ?_
    subst e
    refine Tot.ite (fun h => ?_) fun h => ?_
    · have h : i < 7 := by have := of_decide_eq_true h; simp [pairsL] at this; omega
      obtain ⟨a, b, d, hp, h1, h2, h3, h4, hs, hk, hnx⟩ := pair_at h hn
      have hidx : idx pairsL (i : Int) = some ((a : Int), (b : Int), (d : Int)) := by unfold idx; rw [if_pos (by omega), Int.toNat_natCast]; exact hp
      refine Tot.bind0 hidx (Tot.bindq (P := fun j => j = decide (a ≤ c ∧ c ≤ b)) ?_ fun j hj => ?_)
      · dsimp only
        refine Tot.ite (fun q => ?_) fun q => ?_
        · have q := of_decide_eq_true q
          exact Tot.ret (decide_eq_decide.2 ⟨fun _ => by omega, fun _ => by omega⟩)
        · have q := of_decide_eq_false q
          exact Tot.ret (decide_eq_false (by omega)).symm
      subst hj
      dsimp only
      have hw : IntKind.i32.wrap ((c : Int) + (d : Int)) = ((c + d : Nat) : Int) := by rw [i32_small (by omega) (by omega)]; omega
      rw [hw]
      refine Tot.ite (fun q => Tot.ret (.inl ?_)) fun q => ?_
      · obtain ⟨q1, q2, _⟩ := hs (of_decide_eq_true q)
        rw [q1, q2]; rfl
      · refine Tot.bindq (P := fun j => j = decide (a ≤ c + d ∧ c + d ≤ b)) ?_ fun j hj => ?_
        · refine Tot.ite (fun q => ?_) fun q => ?_
          · have q := of_decide_eq_true q
            exact Tot.ret (decide_eq_decide.2 ⟨fun _ => by omega, fun _ => by omega⟩)
          · have q := of_decide_eq_false q
            exact Tot.ret (decide_eq_false (by omega)).symm
        subst hj
        refine Tot.ite (fun q2 => Tot.ret (.inl ?_)) fun q2 => Tot.ret ⟨⟨i + 1, ?_, h, hnx (of_decide_eq_false q) (of_decide_eq_false q2)⟩, ?_⟩
        · obtain ⟨q1, q3, _⟩ := hk (of_decide_eq_true q2)
          rw [q1, q3]; rfl
        · exact iw (n := i + 1) (by omega) (by omega)
        · rw [iw (n := i + 1) (by omega) (by omega)]; omega
    · have h : i = 7 := by have := of_decide_eq_false h; simp [pairsL] at this; omega
      subst h
      exact Tot.ret (.inr ⟨rfl, noPair_end hn⟩)
  · rcases hr with e | ⟨e, h1, h2⟩
    · subst e; exact Tot.contr rfl
    · subst e; rw [h1, h2]; exact Tot.contl (Tot.ret rfl)

theorem upN_le (c : Nat) : upN c ≤ c ∧ upN c ≤ 80 ∧ dnN c ≤ 80 := by
  rcases kinds c with ⟨d, h⟩ | ⟨d, h⟩ | h <;> omega
theorem upper_tot {c : Nat} (hc : c ≤ 1114111) : Tot (fun n => textstr_upper n (c : Int)) (fun r => r = ((c - upN c : Nat) : Int)) := by
  unfold textstr_upper
  have := upN_le c
  refine Tot.bindq (shift_tot hc) fun r hr => Tot.ret ?_
  subst hr
  dsimp only
  rw [i32_small (by omega) (by omega)]; omega
theorem lower_tot {c : Nat} (hc : c ≤ 1114111) : Tot (fun n => textstr_lower n (c : Int)) (fun r => r = ((c + dnN c : Nat) : Int)) := by
  unfold textstr_lower
  have := upN_le c
  refine Tot.bindq (shift_tot hc) fun r hr => Tot.ret ?_
  subst hr
  dsimp only
  rw [i32_small (by omega) (by omega)]; omega
theorem blank_eq (c : Nat) : (((c : Int) == 32) || (((c : Int) == 9) || ((c : Int) == 10))) = blankN c := by
  unfold blankN
  have f : ∀ k : Nat, ((c : Int) == (k : Int)) = (c == k) := fun k => by
    by_cases h : c = k
    · subst h; rw [beq_self_eq_true, beq_self_eq_true]
    · rw [beq_eq_false_iff_ne.2 h, beq_eq_false_iff_ne.2 (by omega)]
  have f1 := f 32; have f2 := f 9; have f3 := f 10
  simp only [Int.cast_ofNat_Int] at f1 f2 f3
  rw [f1, f2, f3]
theorem class_tot {c : Nat} (hc : c ≤ 1114111) : Tot (fun n => textstr_class n (c : Int)) (fun r => r = (clsN c : Int)) := by
  unfold textstr_class clsN
  refine Tot.bindq (shift_tot hc) fun r hr => ?_
  subst hr
  dsimp only
  refine Tot.ite (fun h => ?_) fun h => ?_
  · have h := of_decide_eq_true h
    rw [if_pos (by omega)]; exact Tot.ret rfl
  have h := of_decide_eq_false h
  rw [if_neg (by omega)]
  refine Tot.ite (fun h => ?_) fun h => ?_
  · have h := of_decide_eq_true h
    rw [if_pos (by omega)]; exact Tot.ret rfl
  have h := of_decide_eq_false h
  rw [if_neg (by omega)]
  refine Tot.ite (fun h => ?_) fun h => ?_
  · rw [Bool.and_eq_true] at h
    have h1 := of_decide_eq_true h.1; have h2 := of_decide_eq_true h.2
    rw [if_pos (by omega)]; exact Tot.ret rfl
  have h9 : ¬ (48 ≤ c ∧ c ≤ 57) := fun ⟨a, b⟩ => by
    rw [decide_eq_true (show (c : Int) ≥ 48 by omega), decide_eq_true (show (c : Int) ≤ 57 by omega)] at h; cases h
  rw [if_neg h9]
  unfold textstr_blank
  rw [blank_eq]
  refine Tot.some_bind (Tot.ite (fun h => ?_) fun h => ?_)
  · rw [if_pos h]; exact Tot.ret rfl
  · rw [if_neg (by rw [h]; simp)]; exact Tot.ret rfl
theorem Class_tot {c : Nat} (hc : c ≤ 1114111) : Tot (fun n => ref4_Class n (c : Int)) (fun r => r = ((clsN c : Int), (othN c : Int))) := by
  unfold ref4_Class ref4_letters
  refine Tot.bind0 (a := pairsL) rfl ?_
  refine Tot.bindq (P := fun r => r = .inr ((clsN c : Int), (othN c : Int)) ∨ (r = .inl () ∧ upN c = 0 ∧ dnN c = 0)) ?_ fun r hr => ?_
  · refine Tot.loop (fun (st : Int) => ∃ i : Nat, st = (i : Int) ∧ i ≤ 7 ∧ noPair c i) (fun (st : Int) => 7 - st.toNat) ⟨0, rfl, by omega, by unfold noPair; omega⟩ fun st ⟨i, e, hi, hn⟩ => ?_
    subst e
    refine Tot.ite (fun h => ?_) fun h => ?_
    · have h : i < 7 := by have := of_decide_eq_true h; simp [pairsL] at this; omega
      obtain ⟨a, b, d, hp, h1, h2, h3, h4, hs, hk, hnx⟩ := pair_at h hn
      have hidx : idx pairsL (i : Int) = some ((a : Int), (b : Int), (d : Int)) := by unfold idx; rw [if_pos (by omega), Int.toNat_natCast]; exact hp
      refine Tot.bindq (P := fun j => j = decide (a ≤ c ∧ c ≤ b)) ?_ fun j hj => ?_
      · refine Tot.bind0 hidx ?_
        dsimp only
        refine Tot.ite (fun q => ?_) fun q => ?_
        · have q := of_decide_eq_true q
          refine Tot.bind0 hidx (Tot.ret ?_)
          dsimp only
          exact decide_eq_decide.2 ⟨fun _ => by omega, fun _ => by omega⟩
        · have q := of_decide_eq_false q
          exact Tot.ret (decide_eq_false (by omega)).symm
      subst hj
      refine Tot.ite (fun q => Tot.bind0 hidx (Tot.ret (.inl ?_))) fun q => ?_
      · obtain ⟨q1, q2, q3⟩ := hs (of_decide_eq_true q)
        have q := of_decide_eq_true q
        dsimp only
        rw [i64_small (by omega) (by omega)]
        unfold clsN othN
        rw [q1, q2, if_pos q3, show ((c - d + 0 : Nat) : Int) = (c : Int) - d by omega]; rfl
      · have hw1 : IntKind.i64.wrap ((a : Int) - (d : Int)) = ((a - d : Nat) : Int) := by rw [i64_small (by omega) (by omega)]; omega
        have hw2 : IntKind.i64.wrap ((b : Int) - (d : Int)) = ((b - d : Nat) : Int) := by rw [i64_small (by omega) (by omega)]; omega
        refine Tot.bindq (P := fun j => j = decide (a ≤ c + d ∧ c + d ≤ b)) ?_ fun j hj => ?_
        · refine Tot.bind0 hidx (Tot.bind0 hidx ?_)
          dsimp only
          rw [hw1]
          refine Tot.ite (fun q => ?_) fun q => ?_
          · have q := of_decide_eq_true q
            refine Tot.bind0 hidx (Tot.bind0 hidx (Tot.ret ?_))
            dsimp only
            rw [hw2]
            exact decide_eq_decide.2 ⟨fun _ => by omega, fun _ => by omega⟩
          · have q := of_decide_eq_false q
            exact Tot.ret (decide_eq_false (by omega)).symm
        subst hj
        refine Tot.ite (fun q2 => Tot.bind0 hidx (Tot.ret (.inl ?_))) fun q2 => Tot.ret ⟨⟨i + 1, ?_, h, hnx (of_decide_eq_false q) (of_decide_eq_false q2)⟩, ?_⟩
        · obtain ⟨q1, q3, q4⟩ := hk (of_decide_eq_true q2)
          dsimp only
          rw [i64_small (by omega) (by omega)]
          unfold clsN othN
          rw [q1, q3, if_neg (by omega), if_pos q4, show ((c - 0 + d : Nat) : Int) = (c : Int) + d by omega]; rfl
        · exact iw (n := i + 1) (by omega) (by omega)
        · rw [iw (n := i + 1) (by omega) (by omega)]; omega
    · have h : i = 7 := by have := of_decide_eq_false h; simp [pairsL] at this; omega
      subst h
      exact Tot.ret (.inr ⟨rfl, noPair_end hn⟩)
  · rcases hr with e | ⟨e, h1, h2⟩
    · subst e; exact Tot.contr rfl
    · subst e
      refine Tot.contl ?_
      unfold clsN othN
      rw [h1, h2, if_neg (by omega), if_neg (by omega)]
      refine Tot.ite (fun h => ?_) fun h => ?_
      · rw [Bool.and_eq_true] at h
        have h1 := of_decide_eq_true h.1; have h2 := of_decide_eq_true h.2
        rw [if_pos (by omega)]; exact Tot.ret rfl
      have h9 : ¬ (48 ≤ c ∧ c ≤ 57) := fun ⟨a, b⟩ => by
        rw [decide_eq_true (show (c : Int) ≥ 48 by omega), decide_eq_true (show (c : Int) ≤ 57 by omega)] at h; cases h
      rw [if_neg h9]
      unfold ref4_Blank
      rw [blank_eq]
      refine Tot.some_bind (Tot.ite (fun h => ?_) fun h => ?_)
      · rw [if_pos h]; exact Tot.ret rfl
      · rw [if_neg (by rw [h]; simp)]; exact Tot.ret rfl
end Go.Gv.R
