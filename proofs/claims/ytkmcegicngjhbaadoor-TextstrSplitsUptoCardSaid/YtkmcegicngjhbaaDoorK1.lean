import Derived.Test.YtkmcegicngjhbaaDoorN8
set_option linter.all false
namespace Go.Gv.R
open Go Go.Gv Go.Gv.D Go.Lib

/-! words: the longest runs without blanks -/
def wA : List Nat → List Nat → List (List Nat)
  | cur, [] => if cur = [] then [] else [cur]
  | cur, c :: p => if blankN c = true then (if cur = [] then wA [] p else cur :: wA [] p) else wA (cur ++ [c]) p
def wordsL (p : List Nat) : List (List Nat) := wA [] p
theorem extract_mid (a b c : List Nat) : (strOf (enc (a ++ b ++ c))).extract (enc a).length (enc (a ++ b)).length = strOf (enc b) := by
  rw [extract_str, enc_app (a ++ b) c, List.take_left, enc_app, List.drop_left]
theorem spans_words {p : List Nat} (hp : ∀ r ∈ p, Scal r) : ∀ (b a cur : List Nat) (f : Nat) (acc : List (Nat × Nat)), p = a ++ cur ++ b → (enc b).length ≤ f →
    ((closeSpans (strOf (enc p)) (spansFromP blankN (strOf (enc p)) f (enc (a ++ cur)).length (if cur = [] then none else some (enc a).length) acc)).map fun x => (strOf (enc p)).extract x.1 x.2) = (acc.map fun x => (strOf (enc p)).extract x.1 x.2) ++ strs (wA cur b)
  | [], a, cur, f, acc, e, _ => by
    rw [List.append_nil] at e
    have hend : ¬ (enc (a ++ cur)).length < (strOf (enc p)).size := by rw [size_str, e]; omega
    rw [spansFromP_end _ _ _ _ _ _ hend]
    unfold closeSpans wA
    by_cases hc : cur = []
    · simp only [hc, if_true]; simp [strs]
    · simp only [hc, if_false]
      rw [List.map_append]
      refine congrArg (_ ++ ·) ?_
      simp only [List.map_cons, List.map_nil, strs]
      have := extract_mid a cur []
      rw [List.append_nil, ← e] at this
      rw [size_str, this]
  | c :: b, a, cur, f, acc, e, hf => by
    have hc : Scal c := hp c (by rw [e]; simp)
    have hcp := encR_pos c
    rw [enc_cons, List.length_append] at hf
    obtain ⟨f, rfl⟩ : ∃ m, f = m + 1 := ⟨f - 1, by omega⟩
    have hlt : (enc (a ++ cur)).length < (strOf (enc p)).size := by rw [size_str, e, enc_app _ (c :: b), enc_cons, List.length_append, List.length_append]; omega
    obtain ⟨hr1, hr2⟩ := rune_at (s := strOf (enc p)) (p := a ++ cur) (t := b) hc (by rw [bytes_str, e])
    have hd1 : (Utf8.decode (strOf (enc p)) (enc (a ++ cur)).length).1 = c := by have : ((Utf8.decode (strOf (enc p)) (enc (a ++ cur)).length).1 : Int) = (c : Int) := hr1; omega
    have hd2 : (Utf8.decode (strOf (enc p)) (enc (a ++ cur)).length).2 = (encR c).length := hr2
    have hpos : (enc (a ++ cur)).length + (encR c).length = (enc (a ++ cur ++ [c])).length := by rw [enc_snoc, List.length_append]
    unfold spansFromP
    rw [if_pos hlt, hd1, hd2, hpos]
    by_cases hb : blankN c = true
    · rw [if_pos hb]
      unfold wA
      rw [if_pos hb]
      by_cases hcur : cur = []
      · subst hcur
        simp only [if_true]
        have := spans_words hp b (a ++ [c]) [] f acc (by rw [e]; simp) (by omega)
        simp only [List.append_nil, if_true] at this ⊢
        exact this
      · simp only [hcur, if_false]
        have := spans_words hp b (a ++ cur ++ [c]) [] f (acc ++ [((enc a).length, (enc (a ++ cur)).length)]) (by rw [e]; simp) (by omega)
        simp only [List.append_nil, if_true] at this
        rw [this, List.map_append, List.append_assoc]
        refine congrArg (_ ++ ·) ?_
        have h2 := extract_mid a cur (c :: b)
        rw [← e] at h2
        simp only [List.map_cons, List.map_nil, h2, strs, List.cons_append, List.nil_append]
    · rw [if_neg hb]
      unfold wA
      rw [if_neg hb]
      have := spans_words hp b a (cur ++ [c]) f acc (by rw [e]; simp) (by omega)
      rw [← List.append_assoc, if_neg (by simp)] at this
      by_cases hcur : cur = []
      · subst hcur
        simp only [if_true, List.append_nil] at this ⊢
        exact this
      · simp only [hcur, if_false]
        exact this
theorem fields_words {p : List Nat} (hp : ∀ r ∈ p, Scal r) : Lib.goFieldsP blankN (strOf (enc p)) = strs (wordsL p) := by
  have := spans_words hp p [] [] (strOf (enc p)).size [] rfl (by rw [size_str]; omega)
  simp only [List.append_nil, if_true, List.map_nil, List.nil_append] at this
  exact this

theorem Words_tot {s : ByteArray} (hs : s.size ≤ 1048576) : Tot (fun n => textstr_Words n s) (fun r => if okS s = true then ∀ p, (∀ x ∈ p, Scal x) → s = strOf (enc p) → r = (if 1000 < (wordsL p).length then ([], (2, -1)) else (strs (wordsL p), (0, 0))) else r = ([], (6, -1))) := by
  unfold textstr_Words
  refine Tot.bindq (tcheck_tot (by simp) (by simpa using hs)) fun r hr => ?_
  subst hr
  by_cases h : okS s = true
  · rw [fault_ok h]
    refine Tot.mono (Q := fun r => ∀ p, (∀ x ∈ p, Scal x) → s = strOf (enc p) → r = (if 1000 < (wordsL p).length then ([], (2, -1)) else (strs (wordsL p), (0, 0)))) ?_ (fun r hr => by rw [if_pos h]; exact hr)
    obtain ⟨p, hp, e, hl⟩ := okS_text h
    subst e
    refine Tot.if_ rfl ?_
    unfold strings_FieldsFunc_blank
    rw [if_pos (by rw [size_str]; omega), fields_words hp]
    refine Tot.some_bind (Tot.bindq pieces_tot fun r hr => Tot.ret ?_)
    intro q hq e
    rw [← str_enc_inj hp hq e, hr]
    have : (strs (wordsL p)).length = (wordsL p).length := by unfold strs; rw [List.length_map]
    rw [this]
  · have h : okS s = false := by cases hh : okS s <;> simp_all
    rw [fault_bad h]
    exact Tot.it rfl (Tot.ret (by rw [if_neg (by rw [h]; simp)]))

/-! the reference's words -/
def solid (l : List Nat) : List Nat := l.takeWhile fun c => !blankN c
theorem solid_split (l : List Nat) : l.take (solid l).length = solid l ∧ ∃ r, l = solid l ++ r := by
  have h : solid l ++ l.dropWhile (fun c => !blankN c) = l := List.takeWhile_append_dropWhile
  have h2 : (solid l ++ l.dropWhile (fun c => !blankN c)).take (solid l).length = solid l := List.take_left
  rw [h] at h2
  exact ⟨h2, _, h.symm⟩
theorem solid_mem : ∀ (l : List Nat) (c : Nat), c ∈ solid l → blankN c = false
  | [], c, h => by cases h
  | x :: l, c, h => by
    unfold solid at h
    rw [List.takeWhile_cons] at h
    by_cases hx : blankN x = true
    · rw [if_neg (by rw [hx]; simp)] at h; cases h
    · have hx : blankN x = false := by cases hh : blankN x <;> simp_all
      rw [if_pos (by rw [hx]; rfl)] at h
      rcases List.mem_cons.1 h with e | e
      · rw [e]; exact hx
      · exact solid_mem l c e
theorem solid_stop : ∀ (l : List Nat) (c : Nat) (r : List Nat), l.drop (solid l).length = c :: r → blankN c = true
  | [], c, r, h => by simp at h
  | x :: l, c, r, h => by
    by_cases hx : blankN x = true
    · have hs : solid (x :: l) = [] := by unfold solid; rw [List.takeWhile_cons, if_neg (by rw [hx]; simp)]
      rw [hs] at h
      injection h with h1 h2
      rw [← h1]; exact hx
    · have hx : blankN x = false := by cases hh : blankN x <;> simp_all
      have hs : solid (x :: l) = x :: solid l := by unfold solid; rw [List.takeWhile_cons, if_pos (by rw [hx]; rfl)]
      rw [hs, List.length_cons, List.drop_succ_cons] at h
      exact solid_stop l c r h
theorem wA_run : ∀ (b cur : List Nat), (cur ≠ [] ∨ solid b ≠ []) → wA cur b = (cur ++ solid b) :: wA [] (b.drop (solid b).length)
  | [], cur, h => by
    rcases h with h | h
    · unfold wA solid
      rw [if_neg h]; simp [wA]
    · exact absurd rfl h
  | c :: b, cur, h => by
    by_cases hbl : blankN c = true
    · have hs : solid (c :: b) = [] := by unfold solid; rw [List.takeWhile_cons, if_neg (by rw [hbl]; simp)]
      rw [hs] at h ⊢
      have hc : cur ≠ [] := h.elim (fun h => h) (fun h => absurd rfl h)
      rw [List.append_nil, List.length_nil, List.drop_zero]
      show (if blankN c = true then (if cur = [] then wA [] b else cur :: wA [] b) else wA (cur ++ [c]) b) = _
      rw [if_pos hbl, if_neg hc]
      show _ = cur :: (if blankN c = true then (if ([] : List Nat) = [] then wA [] b else [] :: wA [] b) else wA ([] ++ [c]) b)
      rw [if_pos hbl, if_pos rfl]
    · have hs : solid (c :: b) = c :: solid b := by unfold solid; rw [List.takeWhile_cons, if_pos (by cases hh : blankN c <;> simp_all)]
      show (if blankN c = true then (if cur = [] then wA [] b else cur :: wA [] b) else wA (cur ++ [c]) b) = _
      rw [if_neg hbl, wA_run b (cur ++ [c]) (.inl (by simp)), hs]; simp
theorem rBlank_tot (c : Nat) : Tot (fun n => ref4_Blank n (c : Int)) (· = blankN c) := by
  unfold ref4_Blank
  exact Tot.ret (blank_eq c)
theorem WordsOf_tot {p : List Nat} (hp : ∀ r ∈ p, Scal r) (hl : p.length ≤ 1048576) : Tot (fun n => ref4_WordsOf n (ints p)) (· = strs (wordsL p)) := by
  unfold ref4_WordsOf
  simp only [ints_len]
  refine Tot.bindq (P := fun j => j = strs (wordsL p)) ?_ fun j hj => Tot.ret hj
  -- the place may lie one behind the end
  refine Tot.loop (fun st => ∃ (i : Nat) (L : List (List Nat)), st = (strs L, (i : Int)) ∧ i ≤ p.length + 1 ∧ L.length ≤ i ∧ wordsL p = L ++ wordsL (p.drop i)) (fun st => p.length + 1 - st.2.toNat) ⟨0, [], rfl, Nat.zero_le _, Nat.zero_le _, rfl⟩ fun st ⟨i, L, e, hi, hLi, hall⟩ => ?_
  subst e
  dsimp only
  refine Tot.ite (fun g => ?_) fun g => ?_
  · have g : i < p.length := by have := of_decide_eq_true g; omega
    have hd := List.drop_eq_getElem_cons g
    refine Tot.bindq (P := fun j => ∃ (k : Nat) (M : List (List Nat)), j = (strs M, (k : Int)) ∧ i ≤ k ∧ k ≤ p.length ∧ M.length ≤ k + 1 ∧ wordsL p = M ++ wordsL (p.drop (k + 1))) ?_ fun j hj => ?_
    · refine Tot.bind0 (ints_get g) (Tot.bindq (rBlank_tot _) fun b hb => ?_)
      subst hb
      refine Tot.ite (fun hb => Tot.ret ⟨i, L, rfl, Nat.le_refl _, by omega, by omega, ?_⟩) fun hb => ?_
      · rw [hall, hd]
        refine congrArg (L ++ ·) ?_
        show (if blankN p[i] = true then (if ([] : List Nat) = [] then wA [] _ else _) else _) = _
        rw [if_pos hb, if_pos rfl]; rfl
      · have hs : solid (p.drop i) ≠ [] := by
          rw [hd]; unfold solid; rw [List.takeWhile_cons, if_pos (by rw [hb]; rfl)]; simp
        have hrun := wA_run (p.drop i) [] (.inr hs)
        rw [List.nil_append, List.drop_drop] at hrun
        obtain ⟨htk, r, hr⟩ := solid_split (p.drop i)
        have hsl : i + (solid (p.drop i)).length ≤ p.length := by
          have := congrArg List.length hr
          rw [List.length_drop, List.length_append] at this; omega
        -- the inner loop finds the end
        refine Tot.bindq (P := fun k => k = ((i + (solid (p.drop i)).length : Nat) : Int)) ?_ fun k hk => ?_
        · refine Tot.loop (fun (st : Int) => ∃ m : Nat, st = ((i + m : Nat) : Int) ∧ m ≤ (solid (p.drop i)).length) (fun (st : Int) => p.length - st.toNat) ⟨0, rfl, Nat.zero_le _⟩ fun st ⟨m, e, hm⟩ => ?_
          subst e
          refine Tot.bindq (P := fun j => j = decide (m < (solid (p.drop i)).length)) ?_ fun j hj => ?_
          · refine Tot.ite (fun g2 => ?_) fun g2 => ?_
            · have g2 : i + m < p.length := by have := of_decide_eq_true g2; omega
              refine Tot.bind0 (ints_get g2) (Tot.bindq (rBlank_tot _) fun b hb2 => Tot.ret ?_)
              subst hb2
              have hget : (p.drop i)[m]'(by rw [List.length_drop]; omega) = p[i + m] := by rw [List.getElem_drop]
              by_cases hm2 : m < (solid (p.drop i)).length
              · rw [decide_eq_true hm2]
                have h7 : (solid (p.drop i))[m] = p[i + m] := by
                  rw [← hget]
                  have h8 : (solid (p.drop i) ++ r)[m]'(by rw [List.length_append]; omega) = (solid (p.drop i))[m] := List.getElem_append_left hm2
                  rw [← h8]
                  congr 1; exact hr.symm
                have h9 : (solid (p.drop i))[m] ∈ solid (p.drop i) := List.getElem_mem hm2
                have := solid_mem _ _ h9
                rw [h7] at this; rw [this]; rfl
              · rw [decide_eq_false hm2]
                have hme : m = (solid (p.drop i)).length := by omega
                have hc := List.drop_eq_getElem_cons g2
                have h10 := solid_stop (p.drop i) _ _ (by rw [List.drop_drop, ← hme]; exact hc)
                rw [h10]; rfl
            · have g2 := of_decide_eq_false g2
              exact Tot.ret (decide_eq_false (by omega)).symm
          subst hj
          refine Tot.ite (fun g2 => ?_) fun g2 => Tot.ret ?_
          · have g2 := of_decide_eq_true g2
            refine Tot.ret ⟨⟨m + 1, ?_, g2⟩, ?_⟩
            · exact iw (by omega) (by omega)
            · rw [iw (n := i + m + 1) (by omega) (by omega)]; omega
          · have g2 := of_decide_eq_false g2
            rw [show m = (solid (p.drop i)).length by omega]
        · subst hk
          have hsub : sub (ints p) (i : Int) ((i + (solid (p.drop i)).length : Nat) : Int) = some (ints (solid (p.drop i))) := by
            rw [sub_ok (by omega) (by omega) (by rw [ints_len]; omega)]
            unfold ints
            rw [Int.toNat_natCast, Int.toNat_natCast, ← List.map_take, ← List.map_drop, List.drop_take, Nat.add_sub_cancel_left]
            rw [htk]
          have hss : ∀ x ∈ solid (p.drop i), Scal x := fun x hx => scal_drop hp i x (by rw [hr]; exact List.mem_append_left _ hx)
          have hsl2 : (strs L).length = L.length := by unfold strs; rw [List.length_map]
          refine Tot.bind0 hsub (Tot.bindq (String_tot hss (by omega)) fun x hx => ?_)
          subst hx
          refine Tot.bind0 (app_ok (by rw [hsl2]; simp; omega)) (Tot.ret ⟨i + (solid (p.drop i)).length, L ++ [solid (p.drop i)], ?_, by omega, hsl, by simp; omega, ?_⟩)
          · unfold strs; simp
          · rw [hall]
            show L ++ wA [] (p.drop i) = _
            rw [hrun, List.append_assoc]
            refine congrArg (fun z => L ++ (solid (p.drop i) :: z)) ?_
            -- behind a word there is a blank, or nothing
            by_cases he : i + (solid (p.drop i)).length < p.length
            · have hc := List.drop_eq_getElem_cons he
              have h11 := solid_stop (p.drop i) _ _ (by rw [List.drop_drop]; exact hc)
              rw [hc]
              show (if blankN _ = true then (if ([] : List Nat) = [] then wA [] _ else _) else _) = _
              rw [if_pos h11, if_pos rfl]; rfl
            · rw [List.drop_of_length_le (by omega), List.drop_of_length_le (by omega)]; rfl
    · obtain ⟨k, M, e, h1, h2, h3, h4⟩ := hj
      subst e
      refine Tot.ret ⟨⟨k + 1, M, ?_, by omega, h3, h4⟩, ?_⟩
      · dsimp only; rw [iw (n := k + 1) (by omega) (by omega)]
      · dsimp only; rw [iw (n := k + 1) (by omega) (by omega)]; omega
  · have g := of_decide_eq_false g
    refine Tot.ret ?_
    rw [hall, List.drop_of_length_le (by omega)]
    unfold wordsL wA
    rw [if_pos rfl, List.append_nil]
end Go.Gv.R
namespace Go.Gv.R
open Go Go.Gv Go.Gv.D Go.Lib

theorem Same_tot {l m : List ByteArray} (hl : l.length ≤ 100000000) : Tot (fun n => ref4_SameTexts n l m) (· = decide (l = m)) := by
  unfold ref4_SameTexts
  refine Tot.ite (fun h => Tot.ret ?_) fun h => ?_
  · exact (decide_eq_false fun e => by subst e; simp at h).symm
  have hlen : l.length = m.length := by
    by_cases e : (l.length : Int) = (m.length : Int)
    · omega
    · rw [bne_iff_ne.2 e] at h; cases h
  refine Tot.bindq (P := fun r => (r = .inl () ∧ l = m) ∨ (r = .inr false ∧ l ≠ m)) ?_ fun r hr => ?_
  · refine Tot.loop (fun (st : Int) => ∃ i : Nat, st = (i : Int) ∧ i ≤ l.length ∧ l.take i = m.take i) (fun (st : Int) => l.length - st.toNat) ⟨0, rfl, Nat.zero_le _, rfl⟩ fun st ⟨i, e, hi, hall⟩ => ?_
    subst e
    refine Tot.ite (fun h => ?_) fun h => ?_
    · have h : i < l.length := by have := of_decide_eq_true h; omega
      refine Tot.bind0 (idx_nat h) (Tot.bind0 (idx_nat (xs := m) (by omega)) (Tot.ite (fun q => Tot.ret (.inr ⟨rfl, fun e => ?_⟩)) fun q => Tot.ret ⟨⟨i + 1, iw (by omega) (by omega), h, ?_⟩, ?_⟩))
      · subst e; rw [str_eq, decide_eq_true rfl] at q; cases q
      · have q : l[i] = m[i]'(by omega) := by
          rw [str_eq] at q
          by_cases e : l[i] = m[i]'(by omega)
          · exact e
          · rw [decide_eq_false e] at q; cases q
        rw [List.take_succ_eq_append_getElem h, List.take_succ_eq_append_getElem (by omega), hall, q]
      · rw [iw (n := i + 1) (by omega) (by omega)]; omega
    · have h : i = l.length := by have := of_decide_eq_false h; omega
      subst h
      refine Tot.ret (.inl ⟨rfl, ?_⟩)
      rw [List.take_length, hlen, List.take_length] at hall; exact hall
  · rcases hr with ⟨e, h⟩ | ⟨e, h⟩
    · subst e; exact Tot.contl (Tot.ret (decide_eq_true h).symm)
    · subst e; exact Tot.contr (decide_eq_false h).symm
theorem list_tot {l : List ByteArray} {f : Int × Int} {want : List ByteArray} {w : Int × Int} (h : (f, l) = if w.1 = 0 ∧ 1000 < want.length then ((2, -1), []) else if w.1 ≠ 0 then (w, []) else (w, want)) : Tot (fun n => law4_list n l f want w) (· = true) := by
  unfold law4_list
  obtain ⟨w1, w2⟩ := w
  dsimp only at h ⊢
  by_cases h1 : w1 = 0
  · subst h1
    refine Tot.bindq (P := fun r => r = decide ((want.length : Int) > 1000)) (Tot.it rfl (Tot.ret rfl)) fun r hr => ?_
    subst hr
    by_cases h2 : 1000 < want.length
    · rw [if_pos ⟨rfl, h2⟩] at h
      obtain ⟨e1, e2⟩ := Prod.mk.inj h
      subst e1 e2
      refine Tot.bindq (P := fun r => r = (2, -1)) (Tot.it (decide_eq_true (by omega)) (Tot.bindq (rat_tot _ _) fun r hr => Tot.ret (by rw [hr]))) fun r hr => ?_
      subst hr
      exact Tot.it rfl (Tot.bindq (P := fun r => r = true) (Tot.it rfl (Tot.ret rfl)) fun r hr => Tot.ret hr)
    · rw [if_neg (fun h => h2 h.2), if_neg (fun h => h rfl)] at h
      obtain ⟨e1, e2⟩ := Prod.mk.inj h
      subst e1 e2
      refine Tot.bindq (P := fun r => r = (0, w2)) (Tot.if_ (decide_eq_false (by omega)) (Tot.ret rfl)) fun r hr => ?_
      subst hr
      exact Tot.if_ rfl (Tot.bindq (P := fun r => r = true) (Tot.it (by simp) (Tot.bindq (Same_tot (by omega)) fun b hb => Tot.ret (by rw [hb]; exact decide_eq_true rfl))) fun r hr => Tot.ret hr)
  · rw [if_neg (fun h => h1 h.1), if_pos h1] at h
    obtain ⟨e1, e2⟩ := Prod.mk.inj h
    subst e1 e2
    refine Tot.bindq (P := fun r => r = false) (Tot.if_ (beq_eq_false_iff_ne.2 h1) (Tot.ret rfl)) fun r hr => ?_
    subst hr
    refine Tot.bindq (P := fun r => r = (w1, w2)) (Tot.if_ rfl (Tot.ret rfl)) fun r hr => ?_
    subst hr
    exact Tot.it (bne_iff_ne.2 h1) (Tot.bindq (P := fun r => r = true) (Tot.it (by simp) (Tot.ret rfl)) fun r hr => Tot.ret hr)

end Go.Gv.R

