import Derived.Test.YtkmcegicngjhbaaDoorM8
set_option linter.all false
namespace Go.Gv.R
open Go Go.Gv Go.Gv.D Go.Lib

/-! runes of texts -/
theorem encode_str {r : Nat} (h : Scal r) : Utf8.encode (r : Int) = strOf (encR r) := by
  have hv : Utf8.valid (r : Int) = true := by
    unfold Utf8.valid
    rcases h with h | ⟨h1, h2⟩
    · rw [decide_eq_true (show (0 : Int) ≤ (r : Int) by omega), decide_eq_true (show (r : Int) < 0xD800 by omega)]; rfl
    · rw [decide_eq_true (show (0xE000 : Int) ≤ (r : Int) by omega), decide_eq_true (show (r : Int) ≤ 0x10FFFF by omega), Bool.and_true, Bool.or_true]
  have hs := scal_i32 h
  unfold Utf8.encode
  simp only [hv, if_true, Int.toNat_natCast]
  by_cases h1 : r < 0x80
  · rw [if_pos h1, encR1 (by omega)]; rfl
  · rw [if_neg h1]
    by_cases h2 : r < 0x800
    · rw [if_pos h2, encR2 (by omega) (by omega)]; rfl
    · rw [if_neg h2]
      by_cases h3 : r < 0x10000
      · rw [if_pos h3, encR3 (by omega) (by omega) h]; rfl
      · rw [if_neg h3, encR4 (by omega) hs]; rfl
theorem strR_fold : ∀ (p : List Nat) (l : List UInt8), (∀ r ∈ p, Scal r) → (ints p).foldl (fun r n => r ++ Utf8.encode n) (strOf l) = strOf (l ++ enc p)
  | [], l, _ => by simp [ints, enc]
  | c :: p, l, h => by
    have hc := h c (List.mem_cons_self ..)
    show (ints p).foldl _ (strOf l ++ Utf8.encode (c : Int)) = _
    rw [encode_str hc, show strOf l ++ strOf (encR c) = strOf (l ++ encR c) from Option.some.inj (by have h := cat_str (l := l) (m := encR c); unfold cat at h; by_cases hl : l.length + (encR c).length ≤ 9223372036854775807 <;> first | (have := h hl; rwa [if_pos (by rw [size_str, size_str]; exact hl)] at this) | rfl), strR_fold p _ (fun r hr => h r (List.mem_cons_of_mem _ hr)), enc_cons, List.append_assoc]
theorem strR_ints {p : List Nat} (h : ∀ r ∈ p, Scal r) : strR (ints p) = strOf (enc p) := by
  have := strR_fold p [] h
  rw [List.nil_append] at this
  exact this
theorem rnF_enc : ∀ (b a p : List Nat) (n : Nat), (∀ r ∈ p, Scal r) → p = a ++ b → (enc b).length ≤ n → rnF (strOf (enc p)) n (enc a).length = ints b
  | [], a, p, n, _, e, _ => by
    rw [List.append_nil] at e; subst e
    cases n with
    | zero => rfl
    | succ n => unfold rnF; rw [if_neg (by rw [size_str]; omega)]; rfl
  | c :: b, a, p, n, hp, e, hn => by
    have hc : Scal c := hp c (by rw [e]; simp)
    have hcp := encR_pos c
    rw [enc_cons, List.length_append] at hn
    obtain ⟨n, rfl⟩ : ∃ m, n = m + 1 := ⟨n - 1, by omega⟩
    obtain ⟨hr1, hr2⟩ := rune_at (s := strOf (enc p)) (p := a) (t := b) hc (by rw [bytes_str, e])
    unfold rnF
    rw [if_pos (by rw [size_str, e, enc_app, enc_cons, List.length_append, List.length_append]; omega), hr1, hr2]
    have := rnF_enc b (a ++ [c]) p n hp (by rw [e]; simp) (by omega)
    rw [enc_snoc, List.length_append] at this
    rw [this]; rfl
theorem rn_enc {p : List Nat} (h : ∀ r ∈ p, Scal r) (hl : (enc p).length ≤ 1048576) : rn (strOf (enc p)) = some (ints p) := by
  unfold rn
  rw [if_pos (by rw [size_str]; omega)]
  have := rnF_enc p [] p (strOf (enc p)).size h rfl (by rw [size_str]; omega)
  exact congrArg some this
theorem RuneCount_tot {p : List Nat} (h : ∀ r ∈ p, Scal r) (hl : (enc p).length ≤ 1048576) : Tot (fun n => utf8_RuneCountInString n (strOf (enc p))) (· = (p.length : Int)) := by
  unfold utf8_RuneCountInString
  simp only [size_str]
  refine Tot.bindq (P := fun j => j = (p.length : Int)) ?_ fun j hj => Tot.ret hj
  refine Tot.loop (fun st => ∃ a b, p = a ++ b ∧ st = ((a.length : Int), (enc a).length)) (fun st => (enc p).length + 1 - st.2) ⟨[], p, rfl, rfl⟩ fun st ⟨a, b, e, hst⟩ => ?_
  subst hst
  dsimp only
  cases b with
  | nil =>
    rw [List.append_nil] at e; subst e
    exact Tot.if_ (decide_eq_false (by omega)) (Tot.ret rfl)
  | cons c b =>
    have hc : Scal c := h c (by rw [e]; simp)
    have hlen : (enc p).length = (enc a).length + (encR c).length + (enc b).length := by rw [e, enc_app, enc_cons, List.length_append, List.length_append]; omega
    have hcp := encR_pos c
    have hal := enc_len_ge a
    refine Tot.it (decide_eq_true (by omega)) ?_
    obtain ⟨hr1, hr2⟩ := rune_at (s := strOf (enc p)) (p := a) (t := b) hc (by rw [bytes_str, e])
    rw [hr2]
    refine Tot.ret ⟨⟨a ++ [c], b, by rw [e]; simp, ?_⟩, by dsimp only; omega⟩
    rw [iw (n := a.length + 1) (by omega) (by omega), enc_snoc, List.length_append, List.length_append]; rfl

/-! the reference's searches over lists -/
theorem Numbers_tot {a b : List Nat} (ha : a.length ≤ 100000000) : Tot (fun n => ref4_Numbers n (ints a) (ints b)) (· = decide (a = b)) := by
  unfold ref4_Numbers
  rw [ints_len, ints_len]
  refine Tot.ite (fun h => Tot.ret ?_) fun h => ?_
  · exact (decide_eq_false fun e => by subst e; simp at h).symm
  have hl : a.length = b.length := by
    by_cases e : (a.length : Int) = (b.length : Int)
    · omega
    · rw [bne_iff_ne.2 e] at h; cases h
  refine Tot.bindq (P := fun r => (r = .inl () ∧ a = b) ∨ (r = .inr false ∧ a ≠ b)) ?_ fun r hr => ?_
  · refine Tot.loop (fun (st : Int) => ∃ i : Nat, st = (i : Int) ∧ i ≤ a.length ∧ a.take i = b.take i) (fun (st : Int) => a.length - st.toNat) ⟨0, rfl, Nat.zero_le _, rfl⟩ fun st ⟨i, e, hi, hall⟩ => ?_
    subst e
    refine Tot.ite (fun h => ?_) fun h => ?_
    · have h : i < a.length := by have := of_decide_eq_true h; omega
      refine Tot.bind0 (ints_get h) (Tot.bind0 (ints_get (l := b) (by omega)) (Tot.ite (fun q => Tot.ret (.inr ⟨rfl, fun e => ?_⟩)) fun q => Tot.ret ⟨⟨i + 1, iw (by omega) (by omega), h, ?_⟩, ?_⟩))
      · subst e; simp at q
      · have q : a[i] = b[i]'(by omega) := by
          by_cases e : ((a[i] : Nat) : Int) = ((b[i]'(by omega) : Nat) : Int)
          · omega
          · rw [bne_iff_ne.2 e] at q; cases q
        rw [List.take_succ_eq_append_getElem h, List.take_succ_eq_append_getElem (by omega), hall, q]
      · rw [iw (n := i + 1) (by omega) (by omega)]; omega
    · have h : i = a.length := by have := of_decide_eq_false h; omega
      subst h
      refine Tot.ret (.inl ⟨rfl, ?_⟩)
      rw [List.take_length, hl, List.take_length] at hall; exact hall
  · rcases hr with ⟨e, h⟩ | ⟨e, h⟩
    · subst e; exact Tot.contl (Tot.ret (decide_eq_true h).symm)
    · subst e; exact Tot.contr (decide_eq_false h).symm
def hereB (p q : List Nat) (i : Nat) : Bool := q.isPrefixOf (p.drop i)
theorem prefix_take {q p : List Nat} : q.isPrefixOf p = decide (p.take q.length = q) := by
  by_cases h : q.isPrefixOf p = true
  · obtain ⟨b, hb⟩ := prefix_split h
    rw [h, hb, List.take_left]; exact (decide_eq_true rfl).symm
  · have h : q.isPrefixOf p = false := by cases hh : q.isPrefixOf p <;> simp_all
    rw [h]
    refine (decide_eq_false fun e => ?_).symm
    have : q.isPrefixOf p = true := List.isPrefixOf_iff_prefix.2 ⟨p.drop q.length, by have := List.take_append_drop q.length p; rw [e] at this; exact this⟩
    rw [h] at this; cases this
theorem here_tot {p q : List Nat} {i : Nat} (hp : p.length ≤ 100000000) (hq : q.length ≤ 100000000) (hi : i ≤ 100000000) : Tot (fun n => ref4_here n (ints p) (ints q) (i : Int)) (· = (decide (i + q.length ≤ p.length) && hereB p q i)) := by
  unfold ref4_here
  rw [ints_len, ints_len]
  have hw : IntKind.i64.wrap ((i : Int) + (q.length : Nat)) = ((i + q.length : Nat) : Int) := iw (by omega) (by omega)
  rw [hw]
  refine Tot.bindq (P := fun j => j = (decide (i + q.length ≤ p.length) && hereB p q i)) (Tot.it (decide_eq_true (by omega)) ?_) fun j hj => Tot.ret hj
  refine Tot.ite (fun h => ?_) fun h => Tot.ret ?_
  · have h : i + q.length ≤ p.length := by have := of_decide_eq_true h; omega
    refine Tot.bind0 (a := ints ((p.drop i).take q.length)) ?_ (Tot.bindq (Numbers_tot (by rw [List.length_take]; omega)) fun r hr => Tot.ret ?_)
    · rw [sub_ok (by omega) (by omega) (by rw [ints_len]; omega)]
      rw [Int.toNat_natCast, Int.toNat_natCast]
      unfold ints
      rw [← List.map_take, ← List.map_drop, List.drop_take, show i + q.length - i = q.length by omega]
    · rw [hr, decide_eq_true h, Bool.true_and]
      unfold hereB
      rw [prefix_take]
  · have h := of_decide_eq_false h
    rw [decide_eq_false (by omega), Bool.false_and]
theorem hereB_len {p q : List Nat} {i : Nat} (h : hereB p q i = true) (hi : i ≤ p.length) : i + q.length ≤ p.length := by
  obtain ⟨b, hb⟩ := prefix_split h
  have := congrArg List.length hb
  rw [List.length_drop, List.length_append] at this; omega
theorem here_false {p q : List Nat} {i : Nat} (hi : i ≤ p.length) : (decide (i + q.length ≤ p.length) && hereB p q i) = hereB p q i := by
  cases h : hereB p q i with
  | false => rw [Bool.and_false]
  | true => rw [Bool.and_true]; exact decide_eq_true (hereB_len h hi)
theorem first_here {p q : List Nat} {i : Nat} (h : hereB p q i = true) : firstOcc q (p.drop i) = some 0 := by
  unfold hereB at h
  cases hd : p.drop i with
  | nil =>
    rw [hd] at h
    unfold firstOcc
    cases q with
    | nil => rfl
    | cons c q => cases h
  | cons c r =>
    rw [hd] at h
    unfold firstOcc
    rw [if_pos h]
theorem first_not {p q : List Nat} {i : Nat} (hi : i < p.length) (h : hereB p q i = false) : firstOcc q (p.drop i) = (firstOcc q (p.drop (i + 1))).map (· + 1) := by
  unfold hereB at h
  rw [List.drop_eq_getElem_cons hi] at h ⊢
  show (if _ then _ else _) = _
  rw [h]; rfl

/-- where a text that is not empty stands, one behind the other -/
theorem Places_tot {p q : List Nat} (hne : q ≠ []) (hp : p.length ≤ 10000000) (hq : q.length ≤ 10000000) : Tot (fun n => ref4_Places n (ints p) (ints q)) (· = ints (cutsK q p.length p 0)) := by
  unfold ref4_Places
  simp only [ints_len]
  have h0 := List.length_pos_iff.2 hne
  refine Tot.bindq (P := fun r => r = ints (cutsK q p.length p 0)) ?_ fun r hr => Tot.ret hr
  refine Tot.loop (fun st => ∃ (i : Nat) (l : List Nat), st = (ints l, (i : Int)) ∧ i ≤ p.length ∧ cutsK q p.length p 0 = l ++ cutsK q p.length (p.drop i) i) (fun st => p.length + 1 - st.2.toNat) ⟨0, [], rfl, Nat.zero_le _, rfl⟩ fun st ⟨i, l, e, hi, hall⟩ => ?_
  subst e
  dsimp only
  have hw : IntKind.i64.wrap ((i : Int) + (q.length : Nat)) = ((i + q.length : Nat) : Int) := iw (by omega) (by omega)
  rw [hw]
  have hcl : l.length ≤ p.length := by
    have h1 := (cuts_le hne p.length p 0).2
    rw [hall, List.length_append] at h1; omega
  refine Tot.ite (fun h => ?_) fun h => ?_
  · have h : i + q.length ≤ p.length := by have := of_decide_eq_true h; omega
    refine Tot.bindq (here_tot (by omega) (by omega) (by omega)) fun r hr => ?_
    rw [here_false hi] at hr
    subst hr
    refine Tot.ite (fun g => Tot.ret ⟨⟨i + 1, l, ?_, by omega, ?_⟩, ?_⟩) fun g => ?_
    · rw [iw (n := i + 1) (by omega) (by omega)]
    · have g : hereB p q i = false := by cases hh : hereB p q i <;> rw [hh] at g <;> first | rfl | cases g
      have hf := first_not (by omega) g
      rw [hall]
      refine congrArg (l ++ ·) ?_
      cases hq2 : firstOcc q (p.drop (i + 1)) with
      | none =>
        rw [hq2] at hf
        rw [cutsK_none hq2, cutsK_none hf]
      | some j =>
        rw [hq2] at hf
        obtain ⟨m, hm⟩ : ∃ m, p.length = m + 1 := ⟨p.length - 1, by omega⟩
        rw [hm, cutsK_some hq2, cutsK_some hf, List.drop_drop, List.drop_drop]
        rw [show i + (j + 1 + q.length) = i + 1 + (j + q.length) by omega, show i + (j + 1) = i + 1 + j by omega]
    · dsimp only; rw [iw (n := i + 1) (by omega) (by omega)]; omega
    · have g : hereB p q i = true := by cases hh : hereB p q i <;> rw [hh] at g <;> first | rfl | cases g
      refine Tot.bind0 (app_ok (by rw [ints_len]; simp; omega)) (Tot.some_bind (Tot.bindq (P := fun j => j = ((i + q.length : Nat) : Int)) (Tot.if_ (beq_eq_false_iff_ne.2 (by omega)) (Tot.ret rfl)) fun j hj => Tot.ret ⟨⟨i + q.length, l ++ [i], ?_, h, ?_⟩, ?_⟩))
      · rw [hj, ints_app]; rfl
      · rw [hall]
        obtain ⟨m, hm⟩ : ∃ m, p.length = m + 1 := ⟨p.length - 1, by omega⟩
        have hf := first_here g
        rw [List.append_assoc]
        refine congrArg (l ++ ·) ?_
        have hlt : (p.drop i).length ≤ p.length := by rw [List.length_drop]; omega
        rw [hm, cutsK_some hf, List.drop_drop, Nat.add_zero, show i + (0 + q.length) = i + q.length by omega]
        refine congrArg (i :: ·) ?_
        rw [cuts_more hne m (p.drop (i + q.length)) (m + 1) _ (by rw [List.length_drop]; omega) (by omega)]
        rfl
      · rw [hj]; dsimp only; omega
  · have h := of_decide_eq_false h
    refine Tot.ret ?_
    have hf : firstOcc q (p.drop i) = none := by
      cases hh : firstOcc q (p.drop i) with
      | none => rfl
      | some j =>
        have := (occ_parts hh).2
        rw [List.length_drop] at this; omega
    rw [hall, cutsK_none hf, List.append_nil]
/-- where the empty text stands: everywhere -/
theorem Places_nil {p : List Nat} (hp : p.length ≤ 10000000) : Tot (fun n => ref4_Places n (ints p) (ints [])) (fun r => r.length = p.length + 1) := by
  unfold ref4_Places
  simp only [ints_len]
  refine Tot.bindq (P := fun r => r.length = p.length + 1) ?_ fun r hr => Tot.ret hr
  refine Tot.loop (fun st => ∃ i : Nat, st.2 = (i : Int) ∧ i ≤ p.length + 1 ∧ st.1.length = i) (fun st => p.length + 1 - st.2.toNat) ⟨0, rfl, Nat.zero_le _, rfl⟩ fun st ⟨i, e, hi, hl⟩ => ?_
  obtain ⟨out, x⟩ := st
  dsimp only at e hl ⊢
  subst e
  have hw : IntKind.i64.wrap ((i : Int) + (([] : List Nat).length : Nat)) = ((i : Nat) : Int) := iw (by simp) (by omega)
  rw [hw]
  refine Tot.ite (fun h => ?_) fun h => ?_
  · have h : i ≤ p.length := by have := of_decide_eq_true h; omega
    refine Tot.bindq (here_tot (by omega) (by simp) (by omega)) fun r hr => ?_
    have : hereB p [] i = true := by unfold hereB; cases p.drop i <;> rfl
    rw [this, decide_eq_true (by simpa using h)] at hr
    subst hr
    refine Tot.if_ rfl (Tot.bind0 (app_ok (by simp; omega)) (Tot.some_bind (Tot.bindq (P := fun j => j = ((i + 1 : Nat) : Int)) (Tot.it rfl (Tot.ret (iw (by omega) (by omega)))) fun j hj => Tot.ret ⟨⟨i + 1, hj, by omega, ?_⟩, ?_⟩)))
    · simp; omega
    · rw [hj]; dsimp only; omega
  · have h := of_decide_eq_false h
    exact Tot.ret (by omega)
end Go.Gv.R
