import Derived.Test.YtkmcegicngjhbaaDoorM3
set_option linter.all false
namespace Go.Gv.R
open Go Go.Gv Go.Gv.D Go.Lib

/-! texts and their faults -/
def okS (s : ByteArray) : Bool := validD (bytesOf s) && decide (s.size ≤ 4000)
def faultL : List ByteArray → Nat → Int × Int
  | [], _ => (0, 0)
  | s :: l, i => if okS s = true then faultL l (i + 1) else (6, -1 - (i : Int))
theorem okS_text {s : ByteArray} (h : okS s = true) : ∃ p, (∀ r ∈ p, Scal r) ∧ s = strOf (enc p) ∧ (enc p).length ≤ 4000 := by
  unfold okS at h
  rw [Bool.and_eq_true] at h
  obtain ⟨p, hp, e⟩ := valid_iff h.1
  have h2 := of_decide_eq_true h.2
  refine ⟨p, hp, ?_, ?_⟩
  · rw [← e, str_bytes]
  · rw [← e, ← size_bytes]; exact h2
theorem okS_enc {p : List Nat} (hp : ∀ r ∈ p, Scal r) (hl : (enc p).length ≤ 4000) : okS (strOf (enc p)) = true := by
  unfold okS
  rw [bytes_str, valid_enc p hp, size_str, decide_eq_true hl]; rfl
theorem tValid_tot {s : ByteArray} (hs : s.size ≤ 1048576) : Tot (fun fuel => textstr_Valid fuel s) (fun r => r = okS s) := by
  unfold textstr_Valid okS
  refine Tot.bindq (P := fun r => r = (validD (bytesOf s) && decide (s.size ≤ 4000))) (Tot.bindq (ValidString_tot (by omega)) fun r hr => ?_) fun r hr => Tot.ret hr
  subst hr
  refine Tot.ite (fun h => ?_) (fun h => ?_)
  · rw [h, Bool.true_and]
    exact Tot.some_bind (Tot.ret (decide_eq_decide.2 ⟨fun h => by omega, fun h => by omega⟩))
  · rw [h]; exact Tot.ret rfl
theorem tat_tot (a b : Int) : Tot (fun fuel => textstr_at fuel a b) (fun r => r = (a, b)) := by unfold textstr_at; exact Tot.ret rfl
theorem rat_tot (a b : Int) : Tot (fun fuel => ref4_At fuel a b) (fun r => r = (a, b)) := by unfold ref4_At; exact Tot.ret rfl
theorem faultL_drop : ∀ (l : List ByteArray) (k i : Nat), (∀ j (h : j < l.length), j < i → okS l[j] = true) → i ≤ l.length → faultL l k = faultL (l.drop i) (k + i)
  | _, k, 0, _, _ => rfl
  | [], k, i + 1, _, h => absurd h (by simp)
  | s :: l, k, i + 1, h, hi => by
    have h0 := h 0 (by simp) (by omega)
    simp only [List.getElem_cons_zero] at h0
    unfold faultL
    rw [if_pos h0, List.drop_succ_cons, faultL_drop l (k + 1) i (fun j hj hji => by have := h (j + 1) (by simpa using hj) (by omega); simpa using this) (by simpa using hi)]
    rw [show k + 1 + i = k + (i + 1) by omega]
    cases hd : List.drop i l <;> simp [faultL]
theorem tcheck_tot {l : List ByteArray} (hl : l.length ≤ 1000) (hs : ∀ s ∈ l, s.size ≤ 1048576) : Tot (fun fuel => textstr_check fuel l) (fun r => r = faultL l 0) := by
  unfold textstr_check
  refine Tot.bindq (P := fun r => (r = .inl (0, 0) ∧ faultL l 0 = (0, 0)) ∨ r = .inr (faultL l 0)) ?_ fun r hr => ?_
  · refine Tot.loop (fun st => ∃ i : Nat, st = ((i : Int), (0, 0)) ∧ i ≤ l.length ∧ ∀ j (h : j < l.length), j < i → okS l[j] = true) (fun st => l.length - st.1.toNat) ⟨0, rfl, by omega, fun j _ h => absurd h (Nat.not_lt_zero _)⟩ fun st ⟨i, e, hi, hall⟩ => ?_
    subst e
    have hd := faultL_drop l 0 i hall hi
    refine Tot.ite (fun q => ?_) (fun q => ?_)
    · have q : i < l.length := by have : ((i : Nat) : Int) < (l.length : Int) := of_decide_eq_true q; omega
      refine Tot.bind0 (idx_nat q) (Tot.bindq (tValid_tot (hs _ (List.getElem_mem q))) fun r hr => ?_)
      subst hr
      rw [List.drop_eq_getElem_cons q, show faultL (l[i] :: l.drop (i + 1)) (0 + i) = (if okS l[i] = true then faultL (l.drop (i + 1)) (0 + i + 1) else (6, -1 - ((0 + i : Nat) : Int))) from rfl] at hd
      refine Tot.ite (fun h => ?_) fun h => ?_
      · have h : okS l[i] = false := by cases hh : okS l[i] <;> rw [hh] at h <;> first | rfl | cases h
        refine Tot.bindq (tat_tot _ _) fun r hr => Tot.ret (.inr ?_)
        subst hr
        rw [show faultL l 0 = _ from hd, h, i64_small (by omega) (by omega)]
        simp
      · have h : okS l[i] = true := by cases hh : okS l[i] <;> rw [hh] at h <;> first | rfl | cases h
        refine Tot.ret ⟨⟨i + 1, ?_, q, fun j hj hji => ?_⟩, ?_⟩
        · show (IntKind.i64.wrap ((i : Int) + 1), ((0 : Int), (0 : Int))) = _
          rw [iw (n := i + 1) (by omega) (by omega)]
        · rcases Nat.lt_or_ge j i with h' | h'
          · exact hall j hj h'
          · have : j = i := by omega
            subst this; exact h
        · show l.length - (IntKind.i64.wrap ((i : Int) + 1)).toNat < l.length - ((i : Nat) : Int).toNat
          rw [iw (n := i + 1) (by omega) (by omega)]; omega
    · have q : i = l.length := by have := of_decide_eq_false q; dsimp only at this; omega
      subst q
      rw [List.drop_length] at hd
      exact Tot.ret (.inl ⟨rfl, hd⟩)
  · rcases hr with ⟨e, h⟩ | e
    · subst e; rw [h]; exact Tot.contl (Tot.ret rfl)
    · subst e; exact Tot.contr rfl
theorem faults_tot {l : List ByteArray} (hl : l.length ≤ 1000) (hs : ∀ s ∈ l, s.size ≤ 1048576) : Tot (fun fuel => ref4_TextFaults fuel l) (fun r => r = faultL l 0) := by
  unfold ref4_TextFaults
  refine Tot.bindq (P := fun r => (r = .inl (0, 0) ∧ faultL l 0 = (0, 0)) ∨ r = .inr (faultL l 0)) ?_ fun r hr => ?_
  · refine Tot.loop (fun st => ∃ i : Nat, st = ((i : Int), (0, 0)) ∧ i ≤ l.length ∧ ∀ j (h : j < l.length), j < i → okS l[j] = true) (fun st => l.length - st.1.toNat) ⟨0, rfl, by omega, fun j _ h => absurd h (Nat.not_lt_zero _)⟩ fun st ⟨i, e, hi, hall⟩ => ?_
    subst e
    have hd := faultL_drop l 0 i hall hi
    refine Tot.ite (fun q => ?_) (fun q => ?_)
    · have q : i < l.length := by have : ((i : Nat) : Int) < (l.length : Int) := of_decide_eq_true q; omega
      refine Tot.bind0 (idx_nat q) (Tot.bindq (P := fun r => r = okS l[i]) (TextOk_tot (hs _ (List.getElem_mem q))) fun r hr => ?_)
      subst hr
      rw [List.drop_eq_getElem_cons q, show faultL (l[i] :: l.drop (i + 1)) (0 + i) = (if okS l[i] = true then faultL (l.drop (i + 1)) (0 + i + 1) else (6, -1 - ((0 + i : Nat) : Int))) from rfl] at hd
      refine Tot.ite (fun h => ?_) fun h => ?_
      · have h : okS l[i] = false := by cases hh : okS l[i] <;> rw [hh] at h <;> first | rfl | cases h
        refine Tot.bindq (rat_tot _ _) fun r hr => Tot.ret (.inr ?_)
        subst hr
        rw [show faultL l 0 = _ from hd, h, i64_small (by omega) (by omega)]
        simp
      · have h : okS l[i] = true := by cases hh : okS l[i] <;> rw [hh] at h <;> first | rfl | cases h
        refine Tot.ret ⟨⟨i + 1, ?_, q, fun j hj hji => ?_⟩, ?_⟩
        · show (IntKind.i64.wrap ((i : Int) + 1), ((0 : Int), (0 : Int))) = _
          rw [iw (n := i + 1) (by omega) (by omega)]
        · rcases Nat.lt_or_ge j i with h' | h'
          · exact hall j hj h'
          · have : j = i := by omega
            subst this; exact h
        · show l.length - (IntKind.i64.wrap ((i : Int) + 1)).toNat < l.length - ((i : Nat) : Int).toNat
          rw [iw (n := i + 1) (by omega) (by omega)]; omega
    · have q : i = l.length := by have := of_decide_eq_false q; dsimp only at this; omega
      subst q
      rw [List.drop_length] at hd
      exact Tot.ret (.inl ⟨rfl, hd⟩)
  · rcases hr with ⟨e, h⟩ | e
    · subst e; rw [h]; exact Tot.contl (Tot.ret rfl)
    · subst e; exact Tot.contr rfl
/-- the points of any string: none, or those of which it is made -/
def ptsOf (s : ByteArray) (r : List Int × Bool) : Prop := (validD (bytesOf s) = false ∧ r = ([], false)) ∨ ∃ p, (∀ r ∈ p, Scal r) ∧ s = strOf (enc p) ∧ r = (ints p, true)
theorem points_any {s : ByteArray} (hs : s.size ≤ 1048576) : Tot (fun fuel => ref4_Points fuel s) (ptsOf s) :=
  (Points_tot hs).mono fun r hr => hr.imp (fun h => h) fun ⟨p, h1, h2, h3⟩ => ⟨p, h1, by rw [← h2, str_bytes], h3⟩
theorem str_enc_inj {p q : List Nat} (hp : ∀ r ∈ p, Scal r) (hq : ∀ r ∈ q, Scal r) (h : strOf (enc p) = strOf (enc q)) : p = q := by
  have := congrArg bytesOf h
  rw [bytes_str, bytes_str] at this
  exact enc_inj hp hq this
theorem points_enc {p : List Nat} (hp : ∀ r ∈ p, Scal r) (hl : (enc p).length ≤ 1048576) : Tot (fun fuel => ref4_Points fuel (strOf (enc p))) (· = (ints p, true)) := by
  refine (points_any (by rw [size_str]; exact hl)).mono fun r hr => ?_
  rcases hr with ⟨h, _⟩ | ⟨q, hq, e, h⟩
  · rw [bytes_str, valid_enc p hp] at h; cases h
  · rw [h, str_enc_inj hp hq e]
theorem ptsOf_len {s : ByteArray} {r : List Int × Bool} (h : ptsOf s r) : ∃ p, (∀ x ∈ p, Scal x) ∧ r.1 = ints p ∧ p.length ≤ s.size ∧ (okS s = true → s = strOf (enc p)) := by
  rcases h with ⟨hv, e⟩ | ⟨p, hp, e, h⟩
  · exact ⟨[], by simp, by rw [e]; rfl, by simp, fun h => by unfold okS at h; rw [hv] at h; cases h⟩
  · exact ⟨p, hp, by rw [h], by rw [e, size_str]; exact enc_len_ge p, fun _ => e⟩
theorem fault_bad {s : ByteArray} (h : okS s = false) : faultL [s] 0 = (6, -1) := by unfold faultL; rw [h]; rfl
theorem fault_ok {s : ByteArray} (h : okS s = true) : faultL [s] 0 = (0, 0) := by unfold faultL; rw [h]; rfl

/-! letters of texts -/
theorem up_len {c : Nat} : (encR (c - upN c)).length = (encR c).length := by
  rcases kinds c with ⟨d, h0, h1, h2, h3, h4, h5, h6, h7, h8⟩ | ⟨d, h0, h1, h2, _⟩ | ⟨h1, _⟩
  · rw [h1]
    rcases h7 with h | h
    · rw [encR1 (by omega), encR1 (by omega)]; rfl
    · rw [encR2 (by omega) (by omega), encR2 (by omega) (by omega)]; rfl
  · rw [h2]; rfl
  · rw [h1]; rfl
theorem dn_len {c : Nat} : (encR (c + dnN c)).length = (encR c).length := by
  rcases kinds c with ⟨d, h0, h1, h2, _⟩ | ⟨d, h0, h1, h2, h3, h4, h5, h6, h7⟩ | ⟨_, h1⟩
  · rw [h2]; rfl
  · rw [h1]
    rcases h7 with h | h
    · rw [encR1 (by omega), encR1 (by omega)]; rfl
    · rw [encR2 (by omega) (by omega), encR2 (by omega) (by omega)]; rfl
  · rw [h1]; rfl
theorem up_scal {c : Nat} (h : Scal c) : Scal (c - upN c) := by
  rcases kinds c with ⟨d, h0, h1, h2, h3, h4, h5, h6, h7, h8⟩ | ⟨d, h0, h1, h2, _⟩ | ⟨h1, _⟩
  · left; omega
  · rw [h2]; exact h
  · rw [h1]; exact h
theorem dn_scal {c : Nat} (h : Scal c) : Scal (c + dnN c) := by
  rcases kinds c with ⟨d, h0, h1, h2, _⟩ | ⟨d, h0, h1, h2, h3, h4, h5, h6, h7⟩ | ⟨_, h1⟩
  · rw [h2]; exact h
  · left; omega
  · rw [h1]; exact h
def titleF (st : Bool) (c : Nat) : Nat × Bool := (if st = true then c + dnN c else c - upN c, decide (clsN c ≤ 2))
theorem title_scal (c : Nat) (st : Bool) (h : Scal c) : Scal (titleF st c).1 := by
  unfold titleF
  dsimp only
  split
  · exact dn_scal h
  · exact up_scal h
theorem title_len (c : Nat) (st : Bool) : (encR (titleF st c).1).length = (encR c).length := by
  unfold titleF
  dsimp only
  split
  · exact dn_len
  · exact up_len
theorem enc_len_map {f : Nat → Nat} (h : ∀ c, (encR (f c)).length = (encR c).length) : ∀ p : List Nat, (enc (p.map f)).length = (enc p).length
  | [] => rfl
  | c :: p => by rw [List.map_cons, enc_cons, enc_cons, List.length_append, List.length_append, h, enc_len_map h p]
theorem enc_len_mapS {σ : Type} {f : σ → Nat → Nat × σ} (h : ∀ c st, (encR (f st c).1).length = (encR c).length) : ∀ (st : σ) (p : List Nat), (enc (mapS f st p)).length = (enc p).length
  | _, [] => rfl
  | st, c :: p => by simp only [mapS]; rw [enc_cons, enc_cons, List.length_append, List.length_append, h, enc_len_mapS h _ p]
theorem clsN_cases (c : Nat) : clsN c = 1 ∨ clsN c = 2 ∨ clsN c = 4 ∨ clsN c = 8 ∨ clsN c = 16 := by
  unfold clsN
  repeat' split
  all_goals omega
theorem cls_and (c : Nat) : ((bwAnd .i64 (clsN c : Int) 3) != 0) = decide (clsN c ≤ 2) := by
  rcases clsN_cases c with e | e | e | e | e <;> rw [e] <;> decide
theorem Title1_tot {c : Nat} {st : Bool} (hc : Scal c) : Tot (fun n => textstr_ToTitle_1 n (c : Int) st) (fun r => r = (((titleF st c).1 : Int), (titleF st c).2)) := by
  unfold textstr_ToTitle_1 titleF
  have hc := scal_i32 hc
  refine Tot.bindq (lower_tot hc) fun r hr => ?_
  subst hr
  refine Tot.bindq (P := fun j => j = ((if st = true then c + dnN c else c - upN c : Nat) : Int)) ?_ fun j hj => Tot.bindq (class_tot hc) fun r hr => Tot.ret ?_
  · cases st with
    | true => exact Tot.if_ rfl (Tot.ret rfl)
    | false => exact Tot.it rfl (Tot.bindq (upper_tot hc) fun r hr => Tot.ret (by subst hr; rfl))
  · subst hj hr
    rw [cls_and]
theorem up_fffd : 65533 - upN 65533 = 65533 := by decide
theorem dn_fffd : 65533 + dnN 65533 = 65533 := by decide

/-- the three changes of a text -/
theorem ToUpper_tot {s : ByteArray} (hs : s.size ≤ 1048576) : Tot (fun n => textstr_ToUpper n s) (fun r => if okS s = true then ∀ p, (∀ x ∈ p, Scal x) → s = strOf (enc p) → r = (strOf (enc (p.map fun c => c - upN c)), (0, 0)) else r = (strOf [], (6, -1))) := by
  unfold textstr_ToUpper textstr_change_upper
  refine Tot.bindq (P := fun r => if okS s = true then ∀ p, (∀ x ∈ p, Scal x) → s = strOf (enc p) → r = (strOf (enc (p.map fun c => c - upN c)), (0, 0)) else r = (strOf [], (6, -1))) ?_ fun r hr => Tot.ret ?_
  · refine Tot.bindq (tcheck_tot (by simp) (by simpa using hs)) fun r hr => ?_
    subst hr
    by_cases h : okS s = true
    · rw [fault_ok h]
      refine Tot.if_ rfl ?_
      obtain ⟨p, hp, e, hl⟩ := okS_text h
      have hm := mapG0_tot (U := textstr_upper) (f := fun c => c - upN c) (fun c hc => upper_tot (scal_i32 hc)) (fun c hc => up_scal hc) up_fffd hp (by omega)
      rw [map_upper_eq]
      rw [← e] at hm
      refine Tot.bindq hm fun r hr => Tot.ret ?_
      rw [if_pos h]
      intro q hq e2
      rw [e] at e2
      rw [← str_enc_inj hp hq e2, hr]
    · have h : okS s = false := by cases hh : okS s <;> simp_all
      rw [fault_bad h]
      refine Tot.it rfl (Tot.ret ?_)
      rw [if_neg (by rw [h]; simp)]
  · exact hr
theorem ToLower_tot {s : ByteArray} (hs : s.size ≤ 1048576) : Tot (fun n => textstr_ToLower n s) (fun r => if okS s = true then ∀ p, (∀ x ∈ p, Scal x) → s = strOf (enc p) → r = (strOf (enc (p.map fun c => c + dnN c)), (0, 0)) else r = (strOf [], (6, -1))) := by
  unfold textstr_ToLower textstr_change_lower
  refine Tot.bindq (P := fun r => if okS s = true then ∀ p, (∀ x ∈ p, Scal x) → s = strOf (enc p) → r = (strOf (enc (p.map fun c => c + dnN c)), (0, 0)) else r = (strOf [], (6, -1))) ?_ fun r hr => Tot.ret ?_
  · refine Tot.bindq (tcheck_tot (by simp) (by simpa using hs)) fun r hr => ?_
    subst hr
    by_cases h : okS s = true
    · rw [fault_ok h]
      refine Tot.if_ rfl ?_
      obtain ⟨p, hp, e, hl⟩ := okS_text h
      have hm := mapG0_tot (U := textstr_lower) (f := fun c => c + dnN c) (fun c hc => lower_tot (scal_i32 hc)) (fun c hc => dn_scal hc) dn_fffd hp (by omega)
      rw [map_lower_eq]
      rw [← e] at hm
      refine Tot.bindq hm fun r hr => Tot.ret ?_
      rw [if_pos h]
      intro q hq e2
      rw [e] at e2
      rw [← str_enc_inj hp hq e2, hr]
    · have h : okS s = false := by cases hh : okS s <;> simp_all
      rw [fault_bad h]
      refine Tot.it rfl (Tot.ret ?_)
      rw [if_neg (by rw [h]; simp)]
  · exact hr
theorem title_fffd (st : Bool) : (titleF st 65533).1 = 65533 := by cases st <;> decide
theorem ToTitle_tot {s : ByteArray} (hs : s.size ≤ 1048576) : Tot (fun n => textstr_ToTitle n s) (fun r => if okS s = true then ∀ p, (∀ x ∈ p, Scal x) → s = strOf (enc p) → r = (strOf (enc (mapS titleF false p)), (0, 0)) else r = (strOf [], (6, -1))) := by
  unfold textstr_ToTitle textstr_change_ToTitle_1
  refine Tot.bindq (P := fun r => if okS s = true then ∀ p, (∀ x ∈ p, Scal x) → s = strOf (enc p) → (r.1, r.2.1) = (strOf (enc (mapS titleF false p)), (0, 0)) else (r.1, r.2.1) = (strOf [], (6, -1))) ?_ fun r hr => Tot.ret ?_
  · refine Tot.bindq (tcheck_tot (by simp) (by simpa using hs)) fun r hr => ?_
    subst hr
    by_cases h : okS s = true
    · rw [fault_ok h]
      refine Tot.if_ rfl ?_
      obtain ⟨p, hp, e, hl⟩ := okS_text h
      have hm := mapG_tot (U := textstr_ToTitle_1) (f := titleF) (fun c st hc => Title1_tot hc) title_scal title_fffd hp (by omega) false
      rw [map_title_eq]
      rw [← e] at hm
      refine Tot.bindq hm fun r hr => Tot.ret ?_
      rw [if_pos h]
      intro q hq e2
      rw [e] at e2
      rw [← str_enc_inj hp hq e2, hr]
    · have h : okS s = false := by cases hh : okS s <;> simp_all
      rw [fault_bad h]
      refine Tot.it rfl (Tot.ret ?_)
      rw [if_neg (by rw [h]; simp)]
  · exact hr
end Go.Gv.R
