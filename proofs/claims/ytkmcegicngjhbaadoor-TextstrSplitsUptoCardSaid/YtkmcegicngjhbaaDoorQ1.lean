import Derived.Test.YtkmcegicngjhbaaDoorK1
set_option linter.all false
namespace Go.Gv.R
open Go Go.Gv Go.Gv.D
set_option maxRecDepth 100000

/-! ### lines -/
def lP : List Nat → List Nat → List (List Nat)
  | cur, [] => if cur = [] then [] else [cur]
  | cur, c :: p => if c = 10 then cur :: lP [] p else lP (cur ++ [c]) p
theorem encR_ten : encR 10 = [10] := by rw [encR1 (by omega)]; rfl
theorem no_ten {r : Nat} (h : Scal r) (hr : r ≠ 10) : ∀ b ∈ encR r, b ≠ 10 := by
  intro b hb e
  subst e
  rcases Nat.lt_or_ge r 128 with g | g
  · rw [encR1 (by omega)] at hb
    simp only [List.mem_cons, List.not_mem_nil, or_false] at hb
    have := congrArg UInt8.toNat hb
    rw [UInt8.toNat_ofNat'] at this
    have h10 : (10 : UInt8).toNat = 10 := rfl
    omega
  have key : ∀ x, 128 ≤ x → x < 256 → (10 : UInt8) ≠ UInt8.ofNat x := fun x h1 h2 e => by
    have := congrArg UInt8.toNat e
    rw [UInt8.toNat_ofNat'] at this
    have h10 : (10 : UInt8).toNat = 10 := rfl
    omega
  rcases Nat.lt_or_ge r 2048 with g2 | g2
  · rw [encR2 g (by omega)] at hb
    simp only [List.mem_cons, List.not_mem_nil, or_false] at hb
    rcases hb with e | e
    · exact key _ (by omega) (by omega) e
    · exact key _ (by omega) (by omega) e
  rcases Nat.lt_or_ge r 65536 with g3 | g3
  · rw [encR3 g2 (by omega) h] at hb
    simp only [List.mem_cons, List.not_mem_nil, or_false] at hb
    rcases hb with e | e | e
    · exact key _ (by omega) (by omega) e
    · exact key _ (by omega) (by omega) e
    · exact key _ (by omega) (by omega) e
  · have hmax : r ≤ 1114111 := by rcases h with h | h <;> omega
    rw [encR4 g3 hmax] at hb
    simp only [List.mem_cons, List.not_mem_nil, or_false] at hb
    rcases hb with e | e | e | e
    · exact key _ (by omega) (by omega) e
    · exact key _ (by omega) (by omega) e
    · exact key _ (by omega) (by omega) e
    · exact key _ (by omega) (by omega) e
theorem enc_no_ten : ∀ {p : List Nat}, (∀ r ∈ p, Scal r) → 10 ∉ p → ∀ b ∈ enc p, b ≠ 10
  | [], _, _, b, hb => by simp [enc] at hb
  | r :: p, h, hn, b, hb => by
    rw [enc_cons] at hb
    rcases List.mem_append.1 hb with e | e
    · exact no_ten (h r (List.mem_cons_self ..)) (fun e => hn (by rw [e]; exact List.mem_cons_self ..)) b e
    · exact enc_no_ten (fun x hx => h x (List.mem_cons_of_mem _ hx)) (fun hx => hn (List.mem_cons_of_mem _ hx)) b e
theorem nIdx_none : ∀ {l : List UInt8}, (∀ b ∈ l, b ≠ 10) → nIdxB l 10 = -1
  | [], _ => rfl
  | b :: l, h => by
    have ih := nIdx_none (l := l) fun x hx => h x (List.mem_cons_of_mem _ hx)
    have hb : (b == 10) = false := beq_eq_false_iff_ne.2 (h b (List.mem_cons_self ..))
    show (if b == 10 then (0 : Int) else if nIdxB l 10 == -1 then -1 else nIdxB l 10 + 1) = -1
    rw [hb, ih]
    rfl
theorem nIdx_some {m : List UInt8} : ∀ {l : List UInt8}, (∀ b ∈ l, b ≠ 10) → nIdxB (l ++ 10 :: m) 10 = (l.length : Int)
  | [], _ => rfl
  | b :: l, h => by
    have ih := nIdx_some (m := m) (l := l) fun x hx => h x (List.mem_cons_of_mem _ hx)
    have hb : (b == 10) = false := beq_eq_false_iff_ne.2 (h b (List.mem_cons_self ..))
    show (if b == 10 then (0 : Int) else if nIdxB (l ++ 10 :: m) 10 == -1 then -1 else nIdxB (l ++ 10 :: m) 10 + 1) = ((l.length + 1 : Nat) : Int)
    rw [hb, ih, if_neg (by decide), if_neg (by simp <;> omega)]
    omega
/-- the first line with its end, and the rest -/
theorem linesB_end {a b : List Nat} (ha : ∀ r ∈ a, Scal r) (hn : 10 ∉ a) : linesB (strOf (enc (a ++ 10 :: b))) = strOf (enc a ++ [10]) :: linesB (strOf (enc b)) := by
  have he : enc (a ++ 10 :: b) = enc a ++ 10 :: enc b := by rw [enc_app, enc_cons, encR_ten]; rfl
  have hi := nIdx_some (m := enc b) (enc_no_ten ha hn)
  have hc : cutL (enc a ++ 10 :: enc b) = (enc a).length + 1 := by
    unfold cutL
    rw [hi, if_pos (by omega)]
    omega
  rw [he, linesB_step (by rw [size_str]; simp; omega), bytes_str, hc]
  congr 1
  · rw [show (enc a).length + 1 = (enc a ++ [10]).length by simp, show enc a ++ 10 :: enc b = (enc a ++ [10]) ++ enc b by simp, List.take_left]
  · rw [show (enc a).length + 1 = (enc a ++ [10]).length by simp, show enc a ++ 10 :: enc b = (enc a ++ [10]) ++ enc b by simp, List.drop_left]
theorem linesB_last {a : List Nat} (ha : ∀ r ∈ a, Scal r) (hn : 10 ∉ a) (hne : a ≠ []) : linesB (strOf (enc a)) = [strOf (enc a)] := by
  have hi := nIdx_none (enc_no_ten ha hn)
  have hc : cutL (enc a) = (enc a).length := by
    unfold cutL
    rw [hi]
    rfl
  have hp : 0 < (enc a).length := by
    obtain ⟨c, t, rfl⟩ := List.exists_cons_of_ne_nil hne
    exact List.length_pos_iff.2 enc_ne
  rw [linesB_step (by rw [size_str]; exact hp), bytes_str, hc, List.take_length, List.drop_length, linesB_nil (by decide)]
theorem HasSuffix_ten {l : List UInt8} (hl : l.length ≤ 1048576) : Tot (fun n => stringslite_HasSuffix n (strOf l) (strOf [10])) (· = (l.getLast? == some 10)) := by
  unfold stringslite_HasSuffix
  rw [size_str, size_str]
  refine Tot.bindq (P := (· = (l.getLast? == some 10))) (Tot.ite (fun h => ?_) (fun h => Tot.ret ?_)) fun x hx => Tot.ret hx
  · have h : ((l.length : Nat) : Int) ≥ (([10] : List UInt8).length : Int) := of_decide_eq_true h
    have h1 : 1 ≤ l.length := by have : (([10] : List UInt8).length : Int) = 1 := rfl; omega
    have hw : IntKind.i64.wrap ((l.length : Int) - ((([10] : List UInt8).length : Nat) : Int)) = ((l.length - 1 : Nat) : Int) := by
      have : ((([10] : List UInt8).length : Nat) : Int) = 1 := rfl
      rw [this, i64_small (by omega) (by omega)]; omega
    rw [hw]
    refine Tot.bind0 (ssub_str (by omega) (Nat.le_refl _)) (Tot.ret ?_)
    rw [List.take_length, str_eq]
    have hne : l ≠ [] := List.length_pos_iff.1 h1
    have hd : l.drop (l.length - 1) = [l.getLast hne] := by
      rw [List.drop_eq_getElem_cons (by omega), List.getLast_eq_getElem, show l.length - 1 + 1 = l.length by omega, List.drop_length]
    rw [hd, List.getLast?_eq_some_getLast hne]
    show decide (strOf [l.getLast hne] = strOf [10]) = (some (l.getLast hne) == some 10)
    by_cases e : l.getLast hne = 10
    · rw [e]; simp
    · rw [decide_eq_false (fun h => e ?_)]
      · exact (beq_eq_false_iff_ne.2 fun h => e (Option.some.inj h)).symm
      · have := congrArg bytesOf h
        rw [bytes_str, bytes_str] at this
        exact (List.cons.inj this).1
  · have h : ¬ ((l.length : Nat) : Int) ≥ (([10] : List UInt8).length : Int) := of_decide_eq_false h
    have h1 : l.length = 0 := by have : (([10] : List UInt8).length : Int) = 1 := rfl; omega
    have : l = [] := List.length_eq_zero_iff.1 h1
    subst this; rfl
theorem TrimTen {l : List UInt8} (hl : l.length ≤ 1048576) : Tot (fun n => strings_TrimSuffix n (strOf l) (strOf [10])) (· = strOf (if l.getLast? = some 10 then l.take (l.length - 1) else l)) := by
  unfold strings_TrimSuffix stringslite_TrimSuffix
  refine Tot.bindq (P := (· = strOf (if l.getLast? = some 10 then l.take (l.length - 1) else l))) (Tot.bindq (HasSuffix_ten hl) fun b hb => Tot.ite (fun h => ?_) (fun h => Tot.ret ?_)) fun x hx => Tot.ret hx
  · rw [hb] at h
    have h := beq_iff_eq.1 h
    have hp : 1 ≤ l.length := by cases l <;> simp_all
    rw [size_str, size_str]
    have hw : IntKind.i64.wrap ((l.length : Int) - ((([10] : List UInt8).length : Nat) : Int)) = ((l.length - 1 : Nat) : Int) := by
      have : ((([10] : List UInt8).length : Nat) : Int) = 1 := rfl
      rw [this, i64_small (by omega) (by omega)]; omega
    rw [hw]
    refine Tot.bind0 (ssub_str (i := 0) (by omega) (by omega)) (Tot.ret ?_)
    rw [if_pos h, List.drop_zero]
  · rw [hb] at h
    rw [if_neg (beq_eq_false_iff_ne.1 h)]
theorem trim_end {a : List Nat} (hl : (enc a).length ≤ 4000) : Tot (fun n => strings_TrimSuffix n (strOf (enc a ++ [10])) (strOf [10])) (· = strOf (enc a)) := by
  refine (TrimTen (l := enc a ++ [10]) (by simp; omega)).mono fun r hr => ?_
  rw [hr, if_pos (by simp)]
  simp
theorem trim_last {a : List Nat} (ha : ∀ r ∈ a, Scal r) (hn : 10 ∉ a) (hl : (enc a).length ≤ 4000) : Tot (fun n => strings_TrimSuffix n (strOf (enc a)) (strOf [10])) (· = strOf (enc a)) := by
  refine (TrimTen (l := enc a) (by omega)).mono fun r hr => ?_
  rw [hr, if_neg]
  intro h
  exact enc_no_ten ha hn 10 (List.mem_of_getLast? h) rfl
end Go.Gv.R
namespace Go.Gv.R
open Go Go.Gv Go.Gv.D
set_option maxRecDepth 100000

theorem lP_end {a : List Nat} (hn : 10 ∉ a) (b : List Nat) : ∀ cur, lP cur (a ++ 10 :: b) = (cur ++ a) :: lP [] b := by
  induction a with
  | nil => intro cur; simp [lP]
  | cons c a ih =>
    intro cur
    have hc : c ≠ 10 := fun e => hn (by rw [e]; exact List.mem_cons_self ..)
    show (if c = 10 then _ else lP (cur ++ [c]) (a ++ 10 :: b)) = _
    rw [if_neg hc, ih (fun h => hn (List.mem_cons_of_mem _ h))]
    simp
theorem lP_last {a : List Nat} (hn : 10 ∉ a) : ∀ cur, lP cur a = if cur ++ a = [] then [] else [cur ++ a] := by
  induction a with
  | nil => intro cur; simp [lP]
  | cons c a ih =>
    intro cur
    have hc : c ≠ 10 := fun e => hn (by rw [e]; exact List.mem_cons_self ..)
    show (if c = 10 then _ else lP (cur ++ [c]) a) = _
    rw [if_neg hc, ih (fun h => hn (List.mem_cons_of_mem _ h))]
    simp
theorem lP_len : ∀ (p cur : List Nat), (lP cur p).length ≤ p.length + 1
  | [], cur => by unfold lP; split <;> simp
  | c :: p, cur => by
    unfold lP
    split
    · have := lP_len p []; simp only [List.length_cons]; omega
    · have := lP_len p (cur ++ [c]); simp only [List.length_cons]; omega
theorem ten_split {p : List Nat} : 10 ∉ p ∨ ∃ a b, p = a ++ 10 :: b ∧ 10 ∉ a := by
  induction p with
  | nil => exact .inl (by simp)
  | cons c p ih =>
    by_cases hc : c = 10
    · subst hc; exact .inr ⟨[], p, rfl, by simp⟩
    · rcases ih with h | ⟨a, b, e, h⟩
      · exact .inl (by simp [h]; exact fun e => hc e.symm)
      · exact .inr ⟨c :: a, b, by rw [e]; rfl, by simp [h]; exact fun e => hc e.symm⟩
/-- the program's lines -/
theorem fold_tot {p : List Nat} (hp : ∀ r ∈ p, Scal r) (hl : (enc p).length ≤ 4000) : ∀ (n : Nat) (b : List Nat) (acc : List ByteArray), b.length ≤ n → (∀ r ∈ b, Scal r) → (enc b).length ≤ 4000 → acc.length + b.length ≤ 100000 →
    Tot (fun fuel => foldO (fun (s72 : (List ByteArray)) (y73 : ByteArray) => (Option.bind (strings_TrimSuffix fuel y73 (strOf [10])) fun r129 => (Option.bind (app s72 ([r129] : List ByteArray)) fun l148 => (some (l148))))) acc (linesB (strOf (enc b)))) (· = acc ++ strs (lP [] b))
  | 0, b, acc, hn, _, _, _ => by
    have : b = [] := List.length_eq_zero_iff.1 (by omega)
    subst this
    rw [linesB_nil (by decide)]
    exact Tot.ret (by simp [strs, lP])
  | n + 1, b, acc, hn, hs, hb, ha => by
    rcases ten_split (p := b) with h | ⟨a, c, e, h⟩
    · by_cases h0 : b = []
      · subst h0
        rw [linesB_nil (by decide)]
        exact Tot.ret (by simp [strs, lP])
      · rw [linesB_last hs h h0, lP_last h, if_neg (by simpa using h0)]
        show Tot (fun fuel => Option.bind (Option.bind (strings_TrimSuffix fuel (strOf (enc b)) (strOf [10])) fun r129 => (Option.bind (app acc ([r129] : List ByteArray)) fun l148 => (some (l148)))) fun st' => some st') _
        refine Tot.bindq (P := (· = acc ++ [strOf (enc b)])) (Tot.bindq (trim_last hs h hb) fun r hr => ?_) fun r hr => Tot.ret (by rw [hr]; rfl)
        subst hr
        exact Tot.bind0 (a := acc ++ [strOf (enc b)]) (by unfold app; rw [if_pos (by simp; omega)]) (Tot.ret rfl)
    · subst e
      have hsa : ∀ r ∈ a, Scal r := fun r hr => hs r (List.mem_append_left _ hr)
      have hsc : ∀ r ∈ c, Scal r := fun r hr => hs r (List.mem_append_right _ (List.mem_cons_of_mem _ hr))
      have hlen : (enc (a ++ 10 :: c)).length = (enc a).length + 1 + (enc c).length := by rw [enc_app, enc_cons, encR_ten]; simp; omega
      have hbl : (a ++ 10 :: c).length = a.length + 1 + c.length := by simp; omega
      rw [linesB_end hsa h, lP_end h]
      show Tot (fun fuel => Option.bind (Option.bind (strings_TrimSuffix fuel (strOf (enc a ++ [10])) (strOf [10])) fun r129 => (Option.bind (app acc ([r129] : List ByteArray)) fun l148 => (some (l148)))) fun st' => foldO _ st' (linesB (strOf (enc c)))) _
      refine Tot.bindq (P := (· = acc ++ [strOf (enc a)])) (Tot.bindq (trim_end (by omega)) fun r hr => ?_) fun r hr => ?_
      · subst hr
        exact Tot.bind0 (a := acc ++ [strOf (enc a)]) (by unfold app; rw [if_pos (by simp; omega)]) (Tot.ret rfl)
      · subst hr
        refine (fold_tot hp hl n c (acc ++ [strOf (enc a)]) (by omega) hsc (by omega) (by simp; omega)).mono fun r hr => ?_
        rw [hr]
        simp [strs]
theorem Lines_tot {p : List Nat} (hp : ∀ r ∈ p, Scal r) (hl : (enc p).length ≤ 4000) : Tot (fun n => textstr_Lines n (strOf (enc p))) (· = if 1000 < (lP [] p).length then ([], (2, -1)) else (strs (lP [] p), (0, 0))) := by
  unfold textstr_Lines
  refine Tot.bindq (tcheck_tot (by simp) (by simp [size_str]; omega)) fun r hr => ?_
  rw [check_ok (by simp) (by simp; exact okS_enc hp hl)] at hr
  subst hr
  refine Tot.if_ rfl ?_
  refine Tot.bind0 (a := ()) (by unfold okLen; rw [if_pos (by rw [size_str]; omega)]) ?_
  have hle := enc_len_ge p
  refine Tot.bindq (fold_tot hp hl p.length p [] (Nat.le_refl _) hp hl (by simp; omega)) fun r hr => ?_
  rw [List.nil_append] at hr
  subst hr
  refine Tot.bindq pieces_tot fun r hr => Tot.ret ?_
  rw [hr]
  have : (strs (lP [] p)).length = (lP [] p).length := by simp [strs]
  rw [this]
theorem Lines_bad {s : ByteArray} (hs : s.size ≤ 1048576) (h : okS s = false) : Tot (fun n => textstr_Lines n s) (· = ([], (6, -1))) := by
  unfold textstr_Lines
  refine Tot.bindq (tcheck_tot (by simp) (by simp; omega)) fun r hr => ?_
  have hf : faultL [s] 0 = (6, -1) := by unfold faultL; rw [if_neg (by rw [h]; decide)]; rfl
  rw [hf] at hr
  subst hr
  exact Tot.it rfl (Tot.ret rfl)
/-- the reference's -/
theorem LinesOf_tot {p : List Nat} (hp : ∀ r ∈ p, Scal r) (hl : p.length ≤ 1048576) : Tot (fun n => ref4_LinesOf n (ints p)) (· = strs (lP [] p)) := by
  unfold ref4_LinesOf
  have hlen : (ints p).length = p.length := by simp [ints]
  rw [hlen]
  refine Tot.bindq (P := fun x => ∃ (k : Nat) (done : List (List Nat)), k ≤ p.length ∧ x = (strs done, (k : Int)) ∧ lP [] p = done ++ (if p.drop k = [] then [] else [p.drop k])) ?_ fun x ⟨k, done, hk, hx, he⟩ => ?_
  · refine Tot.loop (fun st => ∃ (i k : Nat) (done : List (List Nat)), k ≤ i ∧ i ≤ p.length ∧ st = (strs done, (k : Int), (i : Int)) ∧ done.length ≤ i ∧ lP [] p = done ++ lP ((p.take i).drop k) (p.drop i)) (fun st => p.length - st.2.2.toNat) ⟨0, 0, [], Nat.le_refl _, Nat.zero_le _, rfl, Nat.zero_le _, rfl⟩ fun st ⟨i, k, done, hki, hi, e, hdl, hI⟩ => ?_
    subst e
    refine Tot.ite (fun h => ?_) (fun h => Tot.ret ?_)
    · have h : ((i : Nat) : Int) < (p.length : Int) := of_decide_eq_true h
      have hil : i < p.length := by omega
      have hix : idx (ints p) (i : Int) = some ((p[i] : Nat) : Int) := by rw [idx_nat (by rw [hlen]; exact hil)]; simp [ints]
      refine Tot.bind0 hix ?_
      rw [List.drop_eq_getElem_cons hil] at hI
      have hcur : (p.take (i + 1)).drop k = (p.take i).drop k ++ [p[i]] := by
        rw [take_snoc hil, List.drop_append_of_le_length (by simp; omega)]
      refine Tot.bindq (P := fun x => if p[i] = 10 then x = (strs (done ++ [(p.take i).drop k]), ((i + 1 : Nat) : Int)) else x = (strs done, (k : Int))) (Tot.ite (fun h2 => ?_) (fun h2 => Tot.ret ?_)) fun x hx => Tot.ret ?_
      · have h2 : ((p[i] : Nat) : Int) = 10 := beq_iff_eq.1 h2
        have hs : sub (ints p) (k : Int) (i : Int) = some (ints ((p.take i).drop k)) := by
          unfold sub
          rw [if_pos ⟨by omega, by omega, by rw [hlen]; omega⟩]
          simp [ints, List.map_take, List.map_drop]
        refine Tot.bind0 hs ?_
        refine Tot.bindq (String_tot (fun r hr => hp r (List.mem_of_mem_take (List.mem_of_mem_drop hr))) (by simp; omega)) fun r hr => ?_
        subst hr
        refine Tot.bind0 (a := strs (done ++ [(p.take i).drop k])) (by unfold app; rw [if_pos (by simp [strs]; omega)]; simp [strs]) (Tot.ret ?_)
        rw [if_pos (by omega)]
        show (_, IntKind.i64.wrap ((i : Int) + 1)) = _
        rw [i64_small (by omega) (by omega)]
        rfl
      · have h2 : ¬ ((p[i] : Nat) : Int) = 10 := beq_eq_false_iff_ne.1 h2
        rw [if_neg (by omega)]
      · have hw : IntKind.i64.wrap ((i : Int) + 1) = ((i + 1 : Nat) : Int) := by rw [i64_small (by omega) (by omega)]; omega
        simp only [hw]
        refine ⟨?_, by show p.length - (((i + 1 : Nat) : Int)).toNat < p.length - ((i : Int)).toNat; omega⟩
        by_cases h10 : p[i] = 10
        · rw [if_pos h10] at hx
          subst hx
          refine ⟨i + 1, i + 1, done ++ [(p.take i).drop k], Nat.le_refl _, hil, rfl, by simp; omega, ?_⟩
          rw [hI, show lP ((p.take i).drop k) (p[i] :: p.drop (i + 1)) = (p.take i).drop k :: lP [] (p.drop (i + 1)) by rw [lP, if_pos h10]]
          rw [show (p.take (i + 1)).drop (i + 1) = [] by simp]
          simp
        · rw [if_neg h10] at hx
          subst hx
          refine ⟨i + 1, k, done, by omega, hil, rfl, by omega, ?_⟩
          rw [hI, hcur, show lP ((p.take i).drop k) (p[i] :: p.drop (i + 1)) = lP ((p.take i).drop k ++ [p[i]]) (p.drop (i + 1)) by rw [lP, if_neg h10]]
    · have h : ¬ ((i : Nat) : Int) < (p.length : Int) := of_decide_eq_false h
      have : i = p.length := by omega
      subst this
      refine ⟨k, done, hki, rfl, ?_⟩
      rw [hI, List.drop_length, List.take_length]
      rfl
  · subst hx
    refine Tot.bindq (P := (· = strs (lP [] p))) (Tot.ite (fun h => ?_) (fun h => Tot.ret ?_)) fun x hx => Tot.ret hx
    · have h : ((k : Nat) : Int) < (p.length : Int) := of_decide_eq_true h
      have hs : sub (ints p) (k : Int) ((p.length : Nat) : Int) = some (ints (p.drop k)) := by
        unfold sub
        rw [if_pos ⟨by omega, by omega, by rw [hlen]; omega⟩]
        simp [ints, List.map_take, List.map_drop]
        rw [List.take_of_length_le (by simp)]
      refine Tot.bind0 hs ?_
      refine Tot.bindq (String_tot (fun r hr => hp r (List.mem_of_mem_drop hr)) (by simp; omega)) fun r hr => ?_
      subst hr
      have hdn : p.drop k ≠ [] := fun e => by have := congrArg List.length e; simp at this; omega
      rw [if_neg hdn] at he
      have hdl := lP_len p []
      rw [he] at hdl ⊢
      refine Tot.bind0 (a := strs (done ++ [p.drop k])) (by unfold app; rw [if_pos (by simp [strs] at hdl ⊢; omega)]; simp [strs]) (Tot.ret rfl)
    · have h : ¬ ((k : Nat) : Int) < (p.length : Int) := of_decide_eq_false h
      rw [he, if_pos (List.drop_of_length_le (by omega)), List.append_nil]
end Go.Gv.R
namespace Go.Gv.R
open Go Go.Gv Go.Gv.D Go.Lib
set_option maxRecDepth 100000

/-! ### any division by places -/
def posOf (k : Nat) : Nat → List (List Nat) → List Nat
  | _, [] => []
  | _, [_] => []
  | o, x :: y :: l => (o + x.length) :: posOf k (o + x.length + k) (y :: l)
theorem posOf_len (k : Nat) : ∀ (o : Nat) (x : List Nat) (l : List (List Nat)), (posOf k o (x :: l)).length = l.length
  | _, _, [] => rfl
  | o, x, y :: l => by
    show (posOf k _ (y :: l)).length + 1 = _
    rw [posOf_len]; rfl
theorem posOf_eq {k o o' : Nat} {x x' : List Nat} (h : o + x.length = o' + x'.length) (l : List (List Nat)) : posOf k o (x :: l) = posOf k o' (x' :: l) := by
  cases l with
  | nil => rfl
  | cons y l => show _ :: _ = _ :: _; rw [h]
theorem scal_jn {q : List Nat} {P : Nat → Prop} : ∀ {L : List (List Nat)}, (∀ r ∈ jn q L, P r) → ∀ x ∈ L, ∀ r ∈ x, P r
  | [], _, x, hx => by cases hx
  | [y], h, x, hx => by
    simp only [List.mem_cons, List.not_mem_nil, or_false] at hx
    subst hx; exact h
  | y :: z :: l, h, x, hx => by
    rw [jn_cons (by simp)] at h
    rcases List.mem_cons.1 hx with e | e
    · subst e; exact fun r hr => h r (List.mem_append_left _ (List.mem_append_left _ hr))
    · exact scal_jn (fun r hr => h r (List.mem_append_right _ hr)) x e
theorem jn_len_ge {q : List Nat} (hne : q ≠ []) : ∀ (L : List (List Nat)), L.length ≤ (jn q L).length + 1
  | [] => Nat.zero_le _
  | [y] => by simp
  | y :: z :: l => by
    have := jn_len_ge hne (z :: l)
    have hq : 0 < q.length := List.length_pos_iff.2 hne
    rw [jn_cons (by simp)]
    simp only [List.length_append, List.length_cons] at this ⊢
    omega
theorem DivideG {p q : List Nat} {L : List (List Nat)} (hp : ∀ r ∈ p, Scal r) (hl : p.length ≤ 1000000) (hql : q.length ≤ 1000000) (hne : q ≠ []) (hj : jn q L = p) (hL : L ≠ []) : Tot (fun n => ref4_Divide n (ints p) (ints (posOf q.length 0 L)) (q.length : Int)) (· = strs L) := by
  unfold ref4_Divide
  have hil := ints_len (posOf q.length 0 L)
  have hpl := ints_len p
  rw [hil, hpl]
  have hLl := jn_len_ge hne L
  rw [hj] at hLl
  have hscal := scal_jn (q := q) (L := L) (P := Scal) (by rw [hj]; exact hp)
  refine Tot.bindq (P := fun j => ∃ (o : Nat) (pre : List (List Nat)) (x A : List Nat), j = (strs pre, (o : Int)) ∧ L = pre ++ [x] ∧ p = A ++ x ∧ A.length = o) ?_ fun j ⟨o, pre, x, A, e, h1, h2, h3⟩ => ?_
  · refine Tot.loop (fun st => ∃ (i o : Nat) (pre : List (List Nat)) (x : List Nat) (rest : List (List Nat)) (A : List Nat), st = (strs pre, (o : Int), (i : Int)) ∧ L = pre ++ x :: rest ∧ pre.length = i ∧ p = A ++ jn q (x :: rest) ∧ A.length = o ∧ ∃ cs, posOf q.length 0 L = cs ++ posOf q.length o (x :: rest) ∧ cs.length = i) (fun st => (posOf q.length 0 L).length - st.2.2.toNat) ?_ fun st ⟨i, o, pre, x, rest, A, e, h1, h2, h3, h4, cs, h5, h6⟩ => ?_
    · obtain ⟨x, rest, rfl⟩ := List.exists_cons_of_ne_nil hL
      exact ⟨0, 0, [], x, rest, [], rfl, rfl, rfl, hj.symm, rfl, [], rfl, rfl⟩
    · subst e
      have hlen : (posOf q.length 0 L).length = i + rest.length := by rw [h5, List.length_append, h6, posOf_len]
      refine Tot.ite (fun g => ?_) (fun g => Tot.ret ?_)
      · have g : ((i : Nat) : Int) < ((posOf q.length 0 L).length : Int) := of_decide_eq_true g
        have g' : i < (posOf q.length 0 L).length := by omega
        obtain ⟨y, l, rfl⟩ : ∃ y l, rest = y :: l := by
          cases rest with
          | nil => simp at hlen; omega
          | cons y l => exact ⟨y, l, rfl⟩
        have hget : (posOf q.length 0 L)[i]? = some (o + x.length) := by
          rw [h5, List.getElem?_append_right (by omega), h6, Nat.sub_self]; rfl
        have hidx : idx (ints (posOf q.length 0 L)) (i : Int) = some ((o + x.length : Nat) : Int) := by
          rw [ints_get g']
          rw [List.getElem?_eq_getElem g'] at hget
          rw [Option.some.inj hget]
        have hpx : p = A ++ (x ++ (q ++ jn q (y :: l))) := by rw [h3, jn_cons (by simp)]; simp
        have hpn : p.length = A.length + (x.length + (q.length + (jn q (y :: l)).length)) := by rw [hpx]; simp
        have hsub : sub (ints p) (o : Int) ((o + x.length : Nat) : Int) = some (ints x) := by
          unfold sub
          rw [if_pos ⟨by omega, by omega, by rw [hpl]; omega⟩, Int.toNat_natCast, Int.toNat_natCast]
          unfold ints
          rw [← List.map_take, ← List.map_drop, List.drop_take, show o + x.length - o = x.length by omega, hpx, ← h4, List.drop_left, List.take_left]
        have hxL : x ∈ L := by rw [h1]; simp
        have hprel : pre.length ≤ 1000000 := by rw [h1] at hLl; simp at hLl; omega
        refine Tot.bind0 hidx (Tot.bind0 hsub (Tot.bindq (String_tot (hscal x hxL) (by omega)) fun z hz => ?_))
        subst hz
        have hsl : (strs pre).length = i := by unfold strs; rw [List.length_map, h2]
        refine Tot.bind0 (a := strs pre ++ [strOf (enc x)]) (by unfold app; rw [if_pos (by rw [hsl]; simp; omega)]) (Tot.bind0 hidx (Tot.ret ⟨⟨i + 1, o + x.length + q.length, pre ++ [x], y, l, A ++ x ++ q, ?_, by rw [h1]; simp, by simp [h2], by rw [hpx]; simp, by simp [h4]; omega, cs ++ [o + x.length], by rw [h5]; simp [posOf], by simp [h6]⟩, ?_⟩))
        · rw [iw (x := ((o + x.length : Nat) : Int) + (q.length : Int)) (n := o + x.length + q.length) (by omega) (by omega)]
          show (_, _, IntKind.i64.wrap ((i : Int) + 1)) = _
          rw [iw (x := (i : Int) + 1) (n := i + 1) (by omega) (by omega)]
          unfold strs; simp
        · show _ - (IntKind.i64.wrap ((i : Int) + 1)).toNat < _ - ((i : Int)).toNat
          rw [iw (x := (i : Int) + 1) (n := i + 1) (by omega) (by omega)]; omega
      · have g : ¬ ((i : Nat) : Int) < ((posOf q.length 0 L).length : Int) := of_decide_eq_false g
        have : rest = [] := List.length_eq_zero_iff.1 (by omega)
        subst this
        exact ⟨o, pre, x, A, rfl, h1, h3, h4⟩
  · subst e
    have hpn : p.length = A.length + x.length := by rw [h2]; simp
    have hsub : sub (ints p) (o : Int) ((p.length : Nat) : Int) = some (ints x) := by
      unfold sub
      rw [if_pos ⟨by omega, by omega, by rw [hpl]; omega⟩, Int.toNat_natCast, Int.toNat_natCast]
      unfold ints
      rw [← List.map_take, ← List.map_drop, List.take_length, h2, ← h3, List.drop_left]
    have hxL : x ∈ L := by rw [h1]; simp
    have hprel : pre.length ≤ 1000000 := by rw [h1] at hLl; simp at hLl; omega
    refine Tot.bind0 hsub (Tot.bindq (String_tot (hscal x hxL) (by omega)) fun z hz => ?_)
    subst hz
    refine Tot.bind0 (a := strs pre ++ [strOf (enc x)]) (by unfold app; rw [if_pos (by simp [strs]; omega)]) (Tot.ret ?_)
    rw [h1]; unfold strs; simp
end Go.Gv.R
namespace Go.Gv.R
open Go Go.Gv Go.Gv.D Go.Lib
set_option maxRecDepth 100000

theorem first_occ_at {p q : List Nat} : ∀ (e i : Nat), (∀ j, i ≤ j → j < i + e → hereB p q j = false) → hereB p q (i + e) = true → i + e ≤ p.length → firstOcc q (p.drop i) = some e
  | 0, i, _, h, _ => first_here h
  | e + 1, i, hn, h, hl => by
    rw [first_not (by omega) (hn i (Nat.le_refl _) (by omega)), first_occ_at e (i + 1) (fun j h1 h2 => hn j (by omega) (by omega)) (by rw [show i + 1 + e = i + (e + 1) by omega]; exact h) (by omega)]
    rfl
theorem here_rev {r q : List Nat} {a b : List Nat} (h : r = a ++ q ++ b) : hereB r.reverse q.reverse b.length = true := by
  have : r.reverse = b.reverse ++ q.reverse ++ a.reverse := by rw [h]; simp
  have := split_here this
  rwa [List.length_reverse] at this
theorem rev_here {r q : List Nat} {j : Nat} (h : hereB r.reverse q.reverse j = true) (hj : j ≤ r.length) : ∃ a b, r = a ++ q ++ b ∧ b.length = j := by
  obtain ⟨A, B, e, hA⟩ : ∃ A B, r.reverse = A ++ q.reverse ++ B ∧ A.length = j := ⟨_, _, here_split h, by rw [List.length_take, List.length_reverse]; omega⟩
  refine ⟨B.reverse, A.reverse, ?_, by simp [hA]⟩
  have := congrArg List.reverse e
  rw [List.reverse_reverse] at this
  rw [this]
  simp
/-- the reference, from the end -/
theorem PlacesLast_tot {p q : List Nat} {most : Int} (hne : q ≠ []) (hp : p.length ≤ 1000000) (hq : q.length ≤ 1000000) : Tot (fun n => ref4_PlacesLast n (ints p) (ints q) most) (· = ints (posOf q.length 0 (partsR q (kN q p most) p))) := by
  obtain ⟨K, hK⟩ : ∃ K, K = if most < 0 then p.length + 1 else most.toNat := ⟨_, rfl⟩
  have hqp : 0 < q.length := List.length_pos_iff.2 hne
  have hPK : partsR q (kN q p most) p = partsR q K p := by
    unfold partsR
    have h1 := kN_rev (p := p) hne most
    rw [← h1]
    have h2 := parts_min (q := q.reverse) (p := p.reverse) (rev_ne hne) K
    rw [h2]
    congr 4
    unfold kN
    rw [hK]
    have := cN_le (q := q.reverse) (p := p.reverse) (rev_ne hne)
    rw [List.length_reverse] at this
    split
    · omega
    · rfl
  rw [hPK]
  unfold ref4_PlacesLast
  have hpl := ints_len p
  have hql := ints_len q
  rw [hpl, hql, i64_small (by omega) (by omega)]
  refine Tot.some_bind ?_
  refine Tot.bindq (P := (· = ints (posOf q.length 0 (partsR q K p)))) ?_ fun x hx => Tot.ret hx
  refine Tot.loop (fun st => ∃ (r : List Nat) (done : List (List Nat)) (e : Nat), st.1 = ints (posOf q.length 0 (r :: done)) ∧ st.2 = (r.length : Int) - (q.length : Int) - (e : Int) ∧ done.length ≤ K ∧
      partsK q.reverse K p.reverse = (done.map List.reverse).reverse ++ partsK q.reverse (K - done.length) r.reverse ∧ p = jn q (r :: done) ∧ (∀ j, j < e → hereB r.reverse q.reverse j = false) ) (fun st => (st.2 + 1).toNat)
    ⟨p, [], 0, rfl, by omega, Nat.zero_le _, by simp, rfl, fun j h => by omega⟩ fun st ⟨r, done, e, e1, e2, h1, h2, h3, h4⟩ => ?_
  obtain ⟨out, at_⟩ := st
  simp only at e1 e2
  subst e1 e2
  have hol : (ints (posOf q.length 0 (r :: done))).length = done.length := by rw [ints_len, posOf_len]
  rw [hol]
  have hjl := jn_len_ge hne (r :: done)
  rw [← h3] at hjl
  simp only [List.length_cons] at hjl
  obtain ⟨s, hs⟩ : ∃ s, p = r ++ s := by
    rw [h3]
    cases done with
    | nil => exact ⟨[], by simp [jn]⟩
    | cons d l => exact ⟨q ++ jn q (d :: l), by rw [jn_cons (by simp)]; simp⟩
  have hrl : r.length ≤ p.length := by rw [hs]; simp
  have finish : partsK q.reverse (K - done.length) r.reverse = [r.reverse] → ints (posOf q.length 0 (r :: done)) = ints (posOf q.length 0 (partsR q K p)) := fun h => by
    unfold partsR
    rw [h2, h]
    congr 2
    simp [List.map_reverse, Function.comp_def]
  refine Tot.ite (fun hc => ?_) (fun hc => Tot.ret ?_)
  · simp only [Bool.and_eq_true, Bool.or_eq_true, decide_eq_true_eq] at hc
    obtain ⟨c1, c2⟩ := hc
    obtain ⟨a, ha⟩ : ∃ a : Nat, (r.length : Int) - (q.length : Int) - (e : Int) = (a : Int) := ⟨((r.length : Int) - (q.length : Int) - (e : Int)).toNat, by omega⟩
    have har : a + q.length + e = r.length := by omega
    rw [ha]
    refine Tot.bindq (here_tot (i := a) (by omega) (by omega) (by omega)) fun b hb => ?_
    rw [here_false (by omega)] at hb
    subst hb
    have hhere : hereB p q a = true ↔ ∃ x y, r = x ++ q ++ y ∧ y.length = e := by
      constructor
      · intro h
        have hsp := here_split h
        refine ⟨r.take a, r.drop (a + q.length), ?_, by rw [List.length_drop]; omega⟩
        have ht := congrArg (List.take r.length) hsp
        have e0 : p.take r.length = r := by rw [hs, List.take_left]
        rw [e0] at ht
        have hta : p.take a = r.take a := by rw [hs, List.take_append_of_le_length (by omega)]
        have hda : (p.drop (a + q.length)).take e = r.drop (a + q.length) := by
          rw [hs, List.drop_append_of_le_length (by omega), List.take_append_of_le_length (by rw [List.length_drop]; omega), List.take_of_length_le (by rw [List.length_drop]; omega)]
        have key : (p.take a ++ q ++ p.drop (a + q.length)).take r.length = r.take a ++ q ++ r.drop (a + q.length) := by
          have hl2 : r.length = (p.take a ++ q).length + e := by rw [List.length_append, List.length_take]; omega
          rw [hl2, List.take_append, List.take_of_length_le (by omega), show (p.take a ++ q).length + e - (p.take a ++ q).length = e by omega, hda, hta]
        exact ht.trans key
      · rintro ⟨x, y, hxy, hy⟩
        have hxl : x.length = a := by have := congrArg List.length hxy; simp at this; omega
        rw [← hxl]
        exact split_here (b := y ++ s) (by rw [hs, hxy]; simp)
    refine Tot.bindq (P := fun j => if hereB p q a = true then j = (ints (a :: posOf q.length 0 (r :: done)), (a : Int) - (q.length : Int)) else j = (ints (posOf q.length 0 (r :: done)), (a : Int) - 1)) (Tot.ite (fun g => ?_) (fun g => Tot.ret ?_)) fun j hj => Tot.ret ?_
    · refine Tot.bind0 (a := ints (a :: posOf q.length 0 (r :: done))) (by unfold app; rw [if_pos (by rw [hol]; simp; omega)]; rfl) ?_
      rw [i64_small (by omega) (by omega)]
      refine Tot.some_bind (Tot.ret ?_)
      rw [if_pos g]
    · rw [if_neg (by rw [g]; decide)]
      show (_, IntKind.i64.wrap ((a : Int) - 1)) = _
      rw [i64_small (by omega) (by omega)]
    · by_cases g : hereB p q a = true
      · rw [if_pos g] at hj
        subst hj
        obtain ⟨x, y, hxy, hy⟩ := hhere.1 g
        have hxl : x.length = a := by have := congrArg List.length hxy; simp at this; omega
        have hf : firstOcc q.reverse r.reverse = some e := by
          have := first_occ_at (p := r.reverse) (q := q.reverse) e 0 (fun j _ hj => h4 j (by omega)) (by rw [Nat.zero_add, ← hy]; exact here_rev hxy) (by rw [List.length_reverse]; omega)
          simpa using this
        have htK : done.length < K := by
          rw [hK]
          by_cases hm : most < 0
          · rw [if_pos hm]; omega
          · rw [if_neg hm]
            rcases c2 with c2 | c2
            · exact absurd c2 hm
            · omega
        obtain ⟨m, hm⟩ : ∃ m, K - done.length = m + 1 := ⟨K - done.length - 1, by omega⟩
        have hr2 : r.reverse = y.reverse ++ (q.reverse ++ x.reverse) := by rw [hxy]; simp
        refine ⟨⟨x, y :: done, 0, ?_, ?_, by simp; omega, ?_, ?_, fun j h => by omega⟩, ?_⟩
        · show ints (a :: posOf q.length 0 (r :: done)) = ints ((0 + x.length) :: posOf q.length (0 + x.length + q.length) (y :: done))
          rw [hxl, posOf_eq (o' := 0 + a + q.length) (x' := y) (by omega), Nat.zero_add]
        · show (a : Int) - (q.length : Int) = _
          rw [hxl]; simp
        · rw [h2, hm, partsK_some hf]
          have hyr : e = y.reverse.length := by rw [List.length_reverse, hy]
          have t1 : (r.reverse).take e = y.reverse := by rw [hr2, hyr, List.take_left]
          have t2 : (r.reverse).drop (e + q.reverse.length) = x.reverse := by
            rw [hr2, hyr, ← List.drop_drop, List.drop_left, List.drop_left]
          rw [t1, t2, List.length_cons, show K - (done.length + 1) = m by omega]
          simp
        · rw [h3, jn_cons (w := q) (x := x) (by simp), hxy]
          cases done with
          | nil => simp [jn]
          | cons d l => rw [jn_cons (by simp), jn_cons (w := q) (x := y) (by simp)]; simp
        · show ((a : Int) - (q.length : Int) + 1).toNat < ((a : Int) + 1).toNat
          omega
      · rw [if_neg g] at hj
        subst hj
        refine ⟨⟨r, done, e + 1, rfl, ?_, h1, h2, h3, fun j h => ?_⟩, ?_⟩
        · show (a : Int) - 1 = _
          omega
        · rcases Nat.lt_or_ge j e with hj | hj
          · exact h4 j hj
          · have : j = e := by omega
            subst this
            cases hh : hereB r.reverse q.reverse j with
            | false => rfl
            | true => exact absurd (hhere.2 (rev_here hh (by omega))) g
        · show ((a : Int) - 1 + 1).toNat < ((a : Int) + 1).toNat
          omega
  · refine finish ?_
    rw [Bool.and_eq_false_iff] at hc
    have stop : firstOcc q.reverse r.reverse = none ∨ K - done.length = 0 := by
      rcases hc with hc | hc
      · have hc := of_decide_eq_false hc
        left
        cases hf : firstOcc q.reverse r.reverse with
        | none => rfl
        | some i =>
          obtain ⟨o1, o2⟩ := occ_parts hf
          rw [List.length_reverse, List.length_reverse] at o2
          have hi : hereB r.reverse q.reverse i = true := by
            have := split_here o1
            rw [List.length_take, List.length_reverse, Nat.min_eq_left (by omega)] at this
            exact this
          have := h4 i (by omega)
          rw [hi] at this; cases this
      · right
        rw [Bool.or_eq_false_iff] at hc
        have hc1 := of_decide_eq_false hc.1
        have hc2 := of_decide_eq_false hc.2
        rw [hK, if_neg hc1]
        omega
    rcases stop with h | h
    · exact partsK_none h
    · rw [h]; rfl
end Go.Gv.R
namespace Go.Gv.R
open Go Go.Gv Go.Gv.D Go.Lib
set_option maxRecDepth 100000

theorem Split_bad {s t : ByteArray} {most k : Int} (hs : ∀ x ∈ [s, t], x.size ≤ 1048576) (h : faultL [s, t] 0 = (6, k)) : Tot (fun n => textstr_Split n s t most) (· = ([], (6, k))) := by
  unfold textstr_Split
  refine Tot.bindq (tcheck_tot (by simp) hs) fun r hr => ?_
  rw [h] at hr; subst hr
  exact Tot.it rfl (Tot.ret rfl)
theorem SplitLast_bad {s t : ByteArray} {most k : Int} (hs : ∀ x ∈ [s, t], x.size ≤ 1048576) (h : faultL [s, t] 0 = (6, k)) : Tot (fun n => textstr_SplitLast n s t most) (· = ([], (6, k))) := by
  unfold textstr_SplitLast
  refine Tot.bindq (tcheck_tot (by simp) hs) fun r hr => ?_
  rw [h] at hr; subst hr
  exact Tot.it rfl (Tot.ret rfl)
theorem cut_first {p q : List Nat} (hqe : q ≠ []) (most : Int) : (if most < 0 then cutsK q p.length p 0 else (cutsK q p.length p 0).take most.toNat) = cutsK q (kN q p most) p 0 := by
  have hcN : (cutsK q p.length p 0).length = cN q p := rfl
  have hc := cN_le (p := p) hqe
  unfold kN
  by_cases g : most < 0
  · rw [if_pos g, if_pos g, ← cuts_take (cN q p) p.length p 0 hc, ← hcN, List.take_length]
  · rw [if_neg g, if_neg g]
    rcases Nat.le_total most.toNat (cN q p) with h | h
    · rw [Nat.min_eq_left h, cuts_take _ _ _ _ (by omega)]
    · rw [Nat.min_eq_right h, List.take_of_length_le (by omega), ← cuts_take (cN q p) p.length p 0 hc, ← hcN, List.take_length]
theorem partsR_num {q p : List Nat} (hne : q ≠ []) (most : Int) : (partsR q (kN q p most) p).length = kN q p most + 1 := by
  unfold partsR
  rw [List.length_reverse, List.length_map, ← kN_rev hne, parts_num (rev_ne hne)]
/-- the law's end, of the two divisions -/
theorem Splits_tot {s t : ByteArray} {most : Int} (hs : s.size ≤ 1048576) (ht : t.size ≤ 1048576) (hm : inK .i64 most) : Tot (fun n => law4_TextstrSplits n s t most) (· = true) := by
  have hst : ∀ x ∈ [s, t], x.size ≤ 1048576 := by simp; exact ⟨hs, ht⟩
  unfold law4_TextstrSplits
  -- the faults of both
  have hsp : Tot (fun n => textstr_Split n s t most) (fun r => (∃ k : Int, faultL [s, t] 0 = (6, k) ∧ r = ([], (6, k))) ∨ ∃ p q, (∀ r ∈ p, Scal r) ∧ (∀ r ∈ q, Scal r) ∧ s = strOf (enc p) ∧ t = strOf (enc q) ∧ (enc p).length ≤ 4000 ∧ (enc q).length ≤ 4000 ∧ faultL [s, t] 0 = (0, 0) ∧ r = if q = [] then ([], (10, -2)) else if 1000 < kN q p most + 1 then ([], (2, -1)) else (strs (partsK q (kN q p most) p), (0, 0))) := by
    by_cases hok : okS s = true ∧ okS t = true
    · obtain ⟨p, hp, e, hl⟩ := okS_text hok.1
      obtain ⟨q, hq, e2, hl2⟩ := okS_text hok.2
      have hf : faultL [s, t] 0 = (0, 0) := check_ok (by simp) (by simp; exact hok)
      subst e e2
      exact (Split_tot hp hq hl hl2 hm).mono fun r hr => .inr ⟨p, q, hp, hq, rfl, rfl, hl, hl2, hf, hr⟩
    · obtain ⟨k, hk⟩ := fault2_bad hok
      exact (Split_bad hst hk).mono fun r hr => .inl ⟨k, hk, hr⟩
  have hsl : Tot (fun n => textstr_SplitLast n s t most) (fun r => (∀ k : Int, faultL [s, t] 0 = (6, k) → r = ([], (6, k))) ∧ ∀ p q, (∀ r ∈ p, Scal r) → (∀ r ∈ q, Scal r) → s = strOf (enc p) → t = strOf (enc q) → (enc p).length ≤ 4000 → (enc q).length ≤ 4000 → r = if q = [] then ([], (10, -2)) else if 1000 < kN q p most + 1 then ([], (2, -1)) else (strs (partsR q (kN q p most) p), (0, 0))) := by
    by_cases hok : okS s = true ∧ okS t = true
    · obtain ⟨p, hp, e, hl⟩ := okS_text hok.1
      obtain ⟨q, hq, e2, hl2⟩ := okS_text hok.2
      have hf : faultL [s, t] 0 = (0, 0) := check_ok (by simp) (by simp; exact hok)
      subst e e2
      refine (SplitLast_tot hp hq hl hl2 hm).mono fun r hr => ⟨fun k hk => (by rw [hf] at hk; cases hk), fun p' q' h1 h2 h3 h4 _ _ => ?_⟩
      have := str_enc_inj hp h1 h3
      have := str_enc_inj hq h2 h4
      subst_vars
      rfl
    · obtain ⟨k, hk⟩ := fault2_bad hok
      refine (SplitLast_bad hst hk).mono fun r hr => ⟨fun k' hk' => (by rw [hk] at hk'; cases hk'; exact hr), fun p q h1 h2 h3 h4 h5 h6 => ?_⟩
      subst h3 h4
      exact absurd ⟨okS_enc h1 h5, okS_enc h2 h6⟩ hok
  have hln : Tot (fun n => textstr_Lines n s) (fun r => if okS s = true then ∀ p, (∀ x ∈ p, Scal x) → s = strOf (enc p) → r = (if 1000 < (lP [] p).length then ([], (2, -1)) else (strs (lP [] p), (0, 0))) else r = ([], (6, -1))) := by
    by_cases h : okS s = true
    · obtain ⟨p, hp, e, hl⟩ := okS_text h
      subst e
      refine (Lines_tot hp hl).mono fun r hr => ?_
      rw [if_pos h]
      intro p' hp' e'
      have := str_enc_inj hp hp' e'
      subst this
      exact hr
    · refine (Lines_bad hs (by simpa using h)).mono fun r hr => ?_
      rw [if_neg h]; exact hr
  refine Tot.bindq hsp fun r1 h1 => Tot.bindq hsl fun r23 h23 => Tot.bindq (Words_tot hs) fun r50 h50 => Tot.bindq hln fun r77 h77 => Tot.bindq letters_tot fun x hx => ?_
  subst hx
  refine Tot.if_ rfl (Tot.bindq (faults_tot (by simp) hst) fun r128 h128 => ?_)
  subst h128
  refine Tot.bindq (P := (· = ((faultL [s, t] 0).1 == 0 && (t.toList == (strOf []).toList)))) (Tot.ite (fun g => Tot.ret ?_) (fun g => Tot.ret ?_)) fun j143 hj => ?_
  · rw [g]; rfl
  · rw [g]; rfl
  subst hj
  refine Tot.bindq (P := fun w => w = if ((faultL [s, t] 0).1 == 0 && (t.toList == (strOf []).toList)) = true then (10, -2) else faultL [s, t] 0) (Tot.ite (fun g => Tot.bindq (rat_tot _ _) fun r hr => Tot.ret ?_) (fun g => Tot.ret ?_)) fun w hw => ?_
  · rw [hr, if_pos g]
  · rw [if_neg (by rw [g]; decide)]
  refine Tot.bindq (faults_tot (l := [s]) (by simp) (by simp; exact hs)) fun r403 h403 => ?_
  subst h403
  refine Tot.bindq (points_any hs) fun r418 h418 => ?_
  obtain ⟨pp, hpp, hpe, hplen, hpok⟩ := ptsOf_len h418
  have hf1 : faultL [s] 0 = if okS s = true then (0, 0) else (6, -1) := by
    unfold faultL
    split
    · rfl
    · rfl
  refine Tot.bindq (P := (· = false)) ?_ fun j hj => ?_
  · rw [hpe]
    refine Tot.bindq (WordsOf_tot hpp (by omega)) fun r453 h453 => ?_
    subst h453
    have sl : ∀ L : List (List Nat), (strs L).length = L.length := fun L => by simp [strs]
    refine Tot.bindq (list_tot ?_) fun b hb => ?_
    · rw [hf1, sl]
      by_cases g : okS s = true
      · rw [if_pos g] at h50 ⊢
        rw [h50 pp hpp (hpok g)]
        simp only [true_and, ne_eq, not_true_eq_false, if_false]
        split <;> rfl
      · rw [if_neg g] at h50 ⊢
        rw [h50]
        rfl
    subst hb
    refine Tot.if_ rfl (Tot.bindq (LinesOf_tot hpp (by omega)) fun r521 h521 => ?_)
    subst h521
    refine Tot.bindq (list_tot ?_) fun b hb => ?_
    · rw [hf1, sl]
      by_cases g : okS s = true
      · rw [if_pos g] at h77 ⊢
        rw [h77 pp hpp (hpok g)]
        simp only [true_and, ne_eq, not_true_eq_false, if_false]
        split <;> rfl
      · rw [if_neg g] at h77 ⊢
        rw [h77]
        rfl
    subst hb
    exact Tot.ret rfl
  subst hj
  refine Tot.if_ rfl ?_
  rcases h1 with ⟨k, hk, h1⟩ | ⟨p, q, hp, hq, e1, e2, hl, hl2, hf, h1⟩
  · rw [hk] at hw
    have hw : w = (6, k) := hw
    have h23 := h23.1 k hk
    subst hw h1 h23
    refine Tot.it rfl (Tot.bindq (P := (· = true)) (Tot.bindq (list_tot rfl) fun b hb => ?_) fun b hb => Tot.ret hb)
    subst hb
    exact Tot.it rfl (Tot.bindq (list_tot rfl) fun b hb => Tot.ret hb)
  have h24 := h23.2 p q hp hq e1 e2 hl hl2
  subst e1 e2
  rw [hf, empty_str] at hw
  by_cases hqe : q = []
  · rw [decide_eq_true hqe] at hw
    have hw : w = (10, -2) := hw
    rw [if_pos hqe] at h1 h24
    subst hw h1 h24
    refine Tot.it rfl (Tot.bindq (P := (· = true)) (Tot.bindq (list_tot rfl) fun b hb => ?_) fun b hb => Tot.ret hb)
    subst hb
    exact Tot.it rfl (Tot.bindq (list_tot rfl) fun b hb => Tot.ret hb)
  rw [decide_eq_false hqe] at hw
  have hw : w = (0, 0) := hw
  rw [if_neg hqe] at h1 h24
  subst hw
  have h418 := points_enc hp (by omega : (enc p).length ≤ 1048576)
  have hpl := enc_len_ge p
  have hql := enc_len_ge q
  have hpp2 : pp = p := by
    have := hpok (okS_enc hp hl)
    exact (str_enc_inj hp hpp this).symm
  subst hpp2
  refine Tot.if_ rfl (Tot.bindq (points_enc hq (by omega)) fun r622 h622 => ?_)
  subst h622
  rw [hpe]
  dsimp only
  rw [ints_len]
  have sl : ∀ L : List (List Nat), (strs L).length = L.length := fun L => by simp [strs]
  refine Tot.bindq (P := (· = true)) (Tot.bindq (Places_tot hqe (by omega) (by omega)) fun pl hpl2 => ?_) fun b hb => Tot.ret hb
  subst hpl2
  refine Tot.bindq FirstOf_tot fun f hf2 => ?_
  rw [cut_first hqe most] at hf2
  subst hf2
  refine Tot.bindq (Divide_tot hp (by omega) (by omega) hqe) fun d hd => ?_
  subst hd
  refine Tot.bindq (list_tot ?_) fun b hb => ?_
  · rw [sl, parts_num hqe, h1]
    simp only [true_and, ne_eq, not_true_eq_false, if_false]
    split <;> rfl
  subst hb
  refine Tot.it rfl (Tot.bindq (PlacesLast_tot hqe (by omega) (by omega)) fun d hd => ?_)
  subst hd
  refine Tot.bindq (DivideG hp (by omega) (by omega) hqe (jn_partsR q _ pp) (fun e => by have := partsR_num (p := pp) hqe most; rw [e] at this; simp at this)) fun d hd => ?_
  subst hd
  refine Tot.bindq (list_tot ?_) fun b hb => Tot.ret hb
  rw [sl, partsR_num hqe, h24]
  simp only [true_and, ne_eq, not_true_eq_false, if_false]
  split <;> rfl
theorem TextstrSplits_said (s : ByteArray) (sep : ByteArray) (most : Int) (_ : s.size ≤ maxLen) (_ : sep.size ≤ maxLen) (hm : inK .i64 most) (h : (s.size + 1) + ((sep.size + 1) + 1) ≤ 1048576) : Tot (fun n => law4_TextstrSplits n s sep most) (· = true) :=
  Splits_tot (by omega) (by omega) hm
end Go.Gv.R

