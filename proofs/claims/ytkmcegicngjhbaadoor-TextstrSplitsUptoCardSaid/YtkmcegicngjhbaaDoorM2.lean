import Derived.Test.YtkmcegicngjhbaaDoorM1
set_option linter.all false
namespace Go.Gv.R
open Go Go.Gv Go.Gv.D Go.Lib

/-! strings.Map over a valid text -/
section
variable {σ : Type} {U : Nat → Int → σ → Option (Int × σ)} {f : σ → Nat → Nat × σ}
end
section
variable {U : Nat → Int → Option Int} {f : Nat → Nat}
end
end Go.Gv.R
namespace Go.Gv.R
open Go Go.Gv Go.Gv.D Go.Lib

/-! letters: small and capital -/
def S32 (c : Nat) : Prop := (97 ≤ c ∧ c ≤ 122) ∨ (224 ≤ c ∧ c ≤ 246) ∨ (248 ≤ c ∧ c ≤ 254) ∨ (945 ≤ c ∧ c ≤ 961) ∨ (963 ≤ c ∧ c ≤ 969) ∨ (1072 ≤ c ∧ c ≤ 1103)
def C32 (c : Nat) : Prop := (65 ≤ c ∧ c ≤ 90) ∨ (192 ≤ c ∧ c ≤ 214) ∨ (216 ≤ c ∧ c ≤ 222) ∨ (913 ≤ c ∧ c ≤ 929) ∨ (931 ≤ c ∧ c ≤ 937) ∨ (1040 ≤ c ∧ c ≤ 1071)
instance (c : Nat) : Decidable (S32 c) := by unfold S32; exact inferInstance
instance (c : Nat) : Decidable (C32 c) := by unfold C32; exact inferInstance
theorem blank_eq (c : Nat) : (((c : Int) == 32) || (((c : Int) == 9) || ((c : Int) == 10))) = blankN c := by
  unfold blankN
  have f : ∀ k : Nat, ((c : Int) == (k : Int)) = (c == k) := fun k => by
    by_cases h : c = k
    · subst h; rw [beq_self_eq_true, beq_self_eq_true]
    · rw [beq_eq_false_iff_ne.2 h, beq_eq_false_iff_ne.2 (by omega)]
  have f1 := f 32; have f2 := f 9; have f3 := f 10
  simp only [Int.cast_ofNat_Int] at f1 f2 f3
  rw [f1, f2, f3]
end Go.Gv.R
namespace Go.Gv.R
open Go Go.Gv Go.Gv.D Go.Lib

/-! texts and their faults -/
def okS (s : ByteArray) : Bool := validD (bytesOf s) && decide (s.size ≤ 4000)
def faultL : List ByteArray → Nat → Int × Int
  | [], _ => (0, 0)
  | s :: l, i => if okS s = true then faultL l (i + 1) else (6, -1 - (i : Int))
theorem okS_text {s : ByteArray} (h : okS s = true) : ∃ p, (∀ r ∈ p, Scal r) ∧ s = strOf (enc p) ∧ (enc p).length ≤ 4000 := by
  unfold okS at h
  rw [Bool.and_eq_true] at h
  obtain ⟨p, hp, e⟩ := valid_iff h.1
  have h2 := of_decide_eq_true h.2
  refine ⟨p, hp, ?_, ?_⟩
  · rw [← e, str_bytes]
  · rw [← e, ← size_bytes]; exact h2
theorem okS_enc {p : List Nat} (hp : ∀ r ∈ p, Scal r) (hl : (enc p).length ≤ 4000) : okS (strOf (enc p)) = true := by
  unfold okS
  rw [bytes_str, valid_enc p hp, size_str, decide_eq_true hl]; rfl
theorem tValid_tot {s : ByteArray} (hs : s.size ≤ 1048576) : Tot (fun fuel => textstr_Valid fuel s) (fun r => r = okS s) := by
  unfold textstr_Valid okS
  refine Tot.bindq (P := fun r => r = (validD (bytesOf s) && decide (s.size ≤ 4000))) (Tot.bindq (ValidString_tot (by omega)) fun r hr => ?_) fun r hr => Tot.ret hr
  subst hr
  refine Tot.ite (fun h => ?_) (fun h => ?_)
  · rw [h, Bool.true_and]
    exact Tot.some_bind (Tot.ret (decide_eq_decide.2 ⟨fun h => by omega, fun h => by omega⟩))
  · rw [h]; exact Tot.ret rfl
theorem tat_tot (a b : Int) : Tot (fun fuel => textstr_at fuel a b) (fun r => r = (a, b)) := by unfold textstr_at; exact Tot.ret rfl
theorem rat_tot (a b : Int) : Tot (fun fuel => ref4_At fuel a b) (fun r => r = (a, b)) := by unfold ref4_At; exact Tot.ret rfl
theorem faultL_drop : ∀ (l : List ByteArray) (k i : Nat), (∀ j (h : j < l.length), j < i → okS l[j] = true) → i ≤ l.length → faultL l k = faultL (l.drop i) (k + i)
  | _, k, 0, _, _ => rfl
  | [], k, i + 1, _, h => absurd h (by simp)
  | s :: l, k, i + 1, h, hi => by
    have h0 := h 0 (by simp) (by omega)
    simp only [List.getElem_cons_zero] at h0
    unfold faultL
    rw [if_pos h0, List.drop_succ_cons, faultL_drop l (k + 1) i (fun j hj hji => by have := h (j + 1) (by simpa using hj) (by omega); simpa using this) (by simpa using hi)]
    rw [show k + 1 + i = k + (i + 1) by omega]
    cases hd : List.drop i l <;> simp [faultL]
theorem tcheck_tot {l : List ByteArray} (hl : l.length ≤ 1000) (hs : ∀ s ∈ l, s.size ≤ 1048576) : Tot (fun fuel => textstr_check fuel l) (fun r => r = faultL l 0) := by
  unfold textstr_check
  refine Tot.bindq (P := fun r => (r = .inl (0, 0) ∧ faultL l 0 = (0, 0)) ∨ r = .inr (faultL l 0)) ?_ fun r hr => ?_
  · refine Tot.loop (fun st => ∃ i : Nat, st = ((i : Int), (0, 0)) ∧ i ≤ l.length ∧ ∀ j (h : j < l.length), j < i → okS l[j] = true) (fun st => l.length - st.1.toNat) ⟨0, rfl, by omega, fun j _ h => absurd h (Nat.not_lt_zero _)⟩ fun st ⟨i, e, hi, hall⟩ => ?_
    subst e
    have hd := faultL_drop l 0 i hall hi
    refine Tot.ite (fun q => ?_) (fun q => ?_)
    · have q : i < l.length := by have : ((i : Nat) : Int) < (l.length : Int) := of_decide_eq_true q; omega
      refine Tot.bind0 (idx_nat q) (Tot.bindq (tValid_tot (hs _ (List.getElem_mem q))) fun r hr => ?_)
      subst hr
      rw [List.drop_eq_getElem_cons q, show faultL (l[i] :: l.drop (i + 1)) (0 + i) = (if okS l[i] = true then faultL (l.drop (i + 1)) (0 + i + 1) else (6, -1 - ((0 + i : Nat) : Int))) from rfl] at hd
      refine Tot.ite (fun h => ?_) fun h => ?_
      · have h : okS l[i] = false := by cases hh : okS l[i] <;> rw [hh] at h <;> first | rfl | cases h
        refine Tot.bindq (tat_tot _ _) fun r hr => Tot.ret (.inr ?_)
        subst hr
        rw [show faultL l 0 = _ from hd, h, i64_small (by omega) (by omega)]
        simp
      · have h : okS l[i] = true := by cases hh : okS l[i] <;> rw [hh] at h <;> first | rfl | cases h
        refine Tot.ret ⟨⟨i + 1, ?_, q, fun j hj hji => ?_⟩, ?_⟩
        · show (IntKind.i64.wrap ((i : Int) + 1), ((0 : Int), (0 : Int))) = _
          rw [iw (n := i + 1) (by omega) (by omega)]
        · rcases Nat.lt_or_ge j i with h' | h'
          · exact hall j hj h'
          · have : j = i := by omega
            subst this; exact h
        · show l.length - (IntKind.i64.wrap ((i : Int) + 1)).toNat < l.length - ((i : Nat) : Int).toNat
          rw [iw (n := i + 1) (by omega) (by omega)]; omega
    · have q : i = l.length := by have := of_decide_eq_false q; dsimp only at this; omega
      subst q
      rw [List.drop_length] at hd
      exact Tot.ret (.inl ⟨rfl, hd⟩)
  · rcases hr with ⟨e, h⟩ | e
    · subst e; rw [h]; exact Tot.contl (Tot.ret rfl)
    · subst e; exact Tot.contr rfl
theorem faults_tot {l : List ByteArray} (hl : l.length ≤ 1000) (hs : ∀ s ∈ l, s.size ≤ 1048576) : Tot (fun fuel => ref4_TextFaults fuel l) (fun r => r = faultL l 0) := by
  unfold ref4_TextFaults
  refine Tot.bindq (P := fun r => (r = .inl (0, 0) ∧ faultL l 0 = (0, 0)) ∨ r = .inr (faultL l 0)) ?_ fun r hr => ?_
  · refine Tot.loop (fun st => ∃ i : Nat, st = ((i : Int), (0, 0)) ∧ i ≤ l.length ∧ ∀ j (h : j < l.length), j < i → okS l[j] = true) (fun st => l.length - st.1.toNat) ⟨0, rfl, by omega, fun j _ h => absurd h (Nat.not_lt_zero _)⟩ fun st ⟨i, e, hi, hall⟩ => ?_
    subst e
    have hd := faultL_drop l 0 i hall hi
    refine Tot.ite (fun q => ?_) (fun q => ?_)
    · have q : i < l.length := by have : ((i : Nat) : Int) < (l.length : Int) := of_decide_eq_true q; omega
      refine Tot.bind0 (idx_nat q) (Tot.bindq (P := fun r => r = okS l[i]) (TextOk_tot (hs _ (List.getElem_mem q))) fun r hr => ?_)
      subst hr
      rw [List.drop_eq_getElem_cons q, show faultL (l[i] :: l.drop (i + 1)) (0 + i) = (if okS l[i] = true then faultL (l.drop (i + 1)) (0 + i + 1) else (6, -1 - ((0 + i : Nat) : Int))) from rfl] at hd
      refine Tot.ite (fun h => ?_) fun h => ?_
      · have h : okS l[i] = false := by cases hh : okS l[i] <;> rw [hh] at h <;> first | rfl | cases h
        refine Tot.bindq (rat_tot _ _) fun r hr => Tot.ret (.inr ?_)
        subst hr
        rw [show faultL l 0 = _ from hd, h, i64_small (by omega) (by omega)]
        simp
      · have h : okS l[i] = true := by cases hh : okS l[i] <;> rw [hh] at h <;> first | rfl | cases h
        refine Tot.ret ⟨⟨i + 1, ?_, q, fun j hj hji => ?_⟩, ?_⟩
        · show (IntKind.i64.wrap ((i : Int) + 1), ((0 : Int), (0 : Int))) = _
          rw [iw (n := i + 1) (by omega) (by omega)]
        · rcases Nat.lt_or_ge j i with h' | h'
          · exact hall j hj h'
          · have : j = i := by omega
            subst this; exact h
        · show l.length - (IntKind.i64.wrap ((i : Int) + 1)).toNat < l.length - ((i : Nat) : Int).toNat
          rw [iw (n := i + 1) (by omega) (by omega)]; omega
    · have q : i = l.length := by have := of_decide_eq_false q; dsimp only at this; omega
      subst q
      rw [List.drop_length] at hd
      exact Tot.ret (.inl ⟨rfl, hd⟩)
  · rcases hr with ⟨e, h⟩ | e
    · subst e; rw [h]; exact Tot.contl (Tot.ret rfl)
    · subst e; exact Tot.contr rfl
/-- the points of any string: none, or those of which it is made -/
def ptsOf (s : ByteArray) (r : List Int × Bool) : Prop := (validD (bytesOf s) = false ∧ r = ([], false)) ∨ ∃ p, (∀ r ∈ p, Scal r) ∧ s = strOf (enc p) ∧ r = (ints p, true)
theorem points_any {s : ByteArray} (hs : s.size ≤ 1048576) : Tot (fun fuel => ref4_Points fuel s) (ptsOf s) :=
  (Points_tot hs).mono fun r hr => hr.imp (fun h => h) fun ⟨p, h1, h2, h3⟩ => ⟨p, h1, by rw [← h2, str_bytes], h3⟩
theorem str_enc_inj {p q : List Nat} (hp : ∀ r ∈ p, Scal r) (hq : ∀ r ∈ q, Scal r) (h : strOf (enc p) = strOf (enc q)) : p = q := by
  have := congrArg bytesOf h
  rw [bytes_str, bytes_str] at this
  exact enc_inj hp hq this
theorem points_enc {p : List Nat} (hp : ∀ r ∈ p, Scal r) (hl : (enc p).length ≤ 1048576) : Tot (fun fuel => ref4_Points fuel (strOf (enc p))) (· = (ints p, true)) := by
  refine (points_any (by rw [size_str]; exact hl)).mono fun r hr => ?_
  rcases hr with ⟨h, _⟩ | ⟨q, hq, e, h⟩
  · rw [bytes_str, valid_enc p hp] at h; cases h
  · rw [h, str_enc_inj hp hq e]
theorem ptsOf_len {s : ByteArray} {r : List Int × Bool} (h : ptsOf s r) : ∃ p, (∀ x ∈ p, Scal x) ∧ r.1 = ints p ∧ p.length ≤ s.size ∧ (okS s = true → s = strOf (enc p)) := by
  rcases h with ⟨hv, e⟩ | ⟨p, hp, e, h⟩
  · exact ⟨[], by simp, by rw [e]; rfl, by simp, fun h => by unfold okS at h; rw [hv] at h; cases h⟩
  · exact ⟨p, hp, by rw [h], by rw [e, size_str]; exact enc_len_ge p, fun _ => e⟩
theorem fault_bad {s : ByteArray} (h : okS s = false) : faultL [s] 0 = (6, -1) := by unfold faultL; rw [h]; rfl
theorem fault_ok {s : ByteArray} (h : okS s = true) : faultL [s] 0 = (0, 0) := by unfold faultL; rw [h]; rfl

/-! letters of texts -/
end Go.Gv.R

