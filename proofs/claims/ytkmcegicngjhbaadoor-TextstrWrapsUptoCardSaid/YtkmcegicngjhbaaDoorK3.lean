import Derived.Test.YtkmcegicngjhbaaDoorK1
set_option linter.all false
namespace Go.Gv.R
open Go Go.Gv Go.Gv.D Go.Lib

/-! a long word's pieces -/
def chunksF (W : Nat) : Nat → List Nat → List (List Nat)
  | 0, l => [l]
  | f + 1, l => if W < l.length then l.take W :: chunksF W f (l.drop W) else [l]
def chunksW (W : Nat) (l : List Nat) : List (List Nat) := chunksF W l.length l
def lastW (W : Nat) (l : List Nat) : List Nat := (chunksW W l).getLastD []
theorem chunksF_ne (W f : Nat) (l : List Nat) : chunksF W f l ≠ [] := by
  cases f with
  | zero => simp [chunksF]
  | succ f => unfold chunksF; split <;> simp
theorem chunksF_more {W : Nat} (hW : 1 ≤ W) : ∀ (f : Nat) (l : List Nat) (g : Nat), l.length ≤ f → l.length ≤ g → chunksF W f l = chunksF W g l
  | 0, l, g, h, _ => by
    have : l = [] := List.eq_nil_of_length_eq_zero (by omega)
    subst this
    cases g with
    | zero => rfl
    | succ g => unfold chunksF; rw [if_neg (by simp)]
  | f + 1, l, g, h, hg => by
    cases g with
    | zero =>
      have : l = [] := List.eq_nil_of_length_eq_zero (by omega)
      subst this
      unfold chunksF; rw [if_neg (by simp)]
    | succ g =>
      unfold chunksF
      by_cases c : W < l.length
      · rw [if_pos c, if_pos c, chunksF_more hW f (l.drop W) g (by rw [List.length_drop]; omega) (by rw [List.length_drop]; omega)]
      · rw [if_neg c, if_neg c]
/-- what the pieces are -/
theorem chunksF_spec {W : Nat} (hW : 1 ≤ W) : ∀ (f : Nat) (l : List Nat), l ≠ [] → l.length ≤ f → (chunksF W f l).flatten = l ∧ (∀ c ∈ chunksF W f l, c ≠ [] ∧ c.length ≤ W) ∧ (chunksF W f l).length ≤ l.length
  | 0, l, h, hf => absurd (List.eq_nil_of_length_eq_zero (by omega)) h
  | f + 1, l, h, hf => by
    unfold chunksF
    by_cases c : W < l.length
    · rw [if_pos c]
      obtain ⟨h1, h2, h3⟩ := chunksF_spec hW f (l.drop W) (fun e => by rw [List.drop_eq_nil_iff] at e; omega) (by rw [List.length_drop]; omega)
      refine ⟨by rw [List.flatten_cons, h1, List.take_append_drop], fun x hx => ?_, ?_⟩
      · rcases List.mem_cons.1 hx with e | e
        · rw [e]
          exact ⟨fun e => by rw [List.take_eq_nil_iff] at e; rcases e with e | e; omega; exact h e, by rw [List.length_take]; omega⟩
        · exact h2 x e
      · rw [List.length_cons, List.length_drop] at *; omega
    · rw [if_neg c]
      refine ⟨by simp, fun x hx => ?_, ?_⟩
      · rw [List.mem_singleton.1 hx]; exact ⟨h, by omega⟩
      · have := List.length_pos_iff.2 h
        simp; omega
theorem chunks_spec {W : Nat} (hW : 1 ≤ W) {l : List Nat} (h : l ≠ []) : (chunksW W l).flatten = l ∧ (∀ c ∈ chunksW W l, c ≠ [] ∧ c.length ≤ W) ∧ (chunksW W l).length ≤ l.length := chunksF_spec hW _ l h (Nat.le_refl _)
theorem getLastD_mem {α : Type} {l : List α} {d : α} (h : l ≠ []) : l.getLastD d ∈ l ∧ l = l.dropLast ++ [l.getLastD d] := by
  have e : l.getLastD d = l.getLast h := by
    cases l with
    | nil => exact absurd rfl h
    | cons x l => simp [List.getLastD]
  rw [e]
  exact ⟨List.getLast_mem h, (List.dropLast_concat_getLast h).symm⟩
theorem lastW_spec {W : Nat} (hW : 1 ≤ W) {l : List Nat} (h : l ≠ []) : lastW W l ≠ [] ∧ (lastW W l).length ≤ W := (chunks_spec hW h).2.1 _ (getLastD_mem (chunksF_ne _ _ _)).1

/-! words in lines -/
def wStep (W : Nat) (st : List (List Nat) × Nat) (w : List Nat) : List (List Nat) × Nat :=
  if st.2 + 1 + w.length ≤ W ∧ st.1 ≠ [] then (st.1.dropLast ++ [st.1.getLastD [] ++ 32 :: w], st.2 + 1 + w.length) else (st.1 ++ chunksW W w, (lastW W w).length)
def wFold (W : Nat) (ws : List (List Nat)) : List (List Nat) × Nat := ws.foldl (wStep W) ([], W)
theorem wFold_snoc (W : Nat) (ws : List (List Nat)) (w : List Nat) : wFold W (ws ++ [w]) = wStep W (wFold W ws) w := by
  unfold wFold; rw [List.foldl_append]; rfl
/-- what is true of the lines -/
def wOk (W n : Nat) (st : List (List Nat) × Nat) : Prop := st.2 ≤ W ∧ st.1.length ≤ n ∧ (∀ l ∈ st.1, l.length ≤ W ∧ ∀ r ∈ l, Scal r) ∧ (st.1 = [] → st.2 = W) ∧ (st.1 ≠ [] → (st.1.getLastD []).length = st.2)
theorem scal32 : Scal 32 := .inl (by omega)
theorem wStep_ok {W n : Nat} {st : List (List Nat) × Nat} {w : List Nat} (hW : 1 ≤ W) (h : wOk W n st) (hw : w ≠ []) (hs : ∀ r ∈ w, Scal r) : wOk W (n + w.length) (wStep W st w) := by
  obtain ⟨h1, h2, h3, h4, h5⟩ := h
  unfold wStep
  by_cases c : st.2 + 1 + w.length ≤ W ∧ st.1 ≠ []
  · rw [if_pos c]
    obtain ⟨m1, m2⟩ := getLastD_mem (d := []) c.2
    refine ⟨c.1, ?_, fun l hl => ?_, fun e => by simp at e, fun _ => ?_⟩
    · simp only [List.length_append, List.length_dropLast, List.length_cons, List.length_nil]
      have := List.length_pos_iff.2 c.2
      omega
    · rcases List.mem_append.1 hl with e | e
      · exact h3 l (List.dropLast_subset _ e)
      · rw [List.mem_singleton.1 e]
        have := h5 c.2
        refine ⟨by rw [List.length_append, List.length_cons, this]; omega, fun r hr => ?_⟩
        rcases List.mem_append.1 hr with e | e
        · exact (h3 _ m1).2 r e
        · rcases List.mem_cons.1 e with e | e
          · rw [e]; exact scal32
          · exact hs r e
    · have := h5 c.2
      simp only [List.getLastD_concat, List.length_append, List.length_cons]
      rw [this]; omega
  · rw [if_neg c]
    obtain ⟨c1, c2, c3⟩ := chunks_spec hW hw
    obtain ⟨l1, l2⟩ := lastW_spec hW hw
    refine ⟨l2, by rw [List.length_append]; omega, fun l hl => ?_, fun e => ?_, fun _ => ?_⟩
    · rcases List.mem_append.1 hl with e | e
      · exact h3 l e
      · refine ⟨(c2 l e).2, fun r hr => hs r ?_⟩
        rw [← c1]; exact List.mem_flatten.2 ⟨l, e, hr⟩
    · simp only [List.append_eq_nil_iff] at e
      exact absurd e.2 (chunksF_ne _ _ _)
    · obtain ⟨m1, m2⟩ := getLastD_mem (d := []) (chunksF_ne W w.length w)
      show ((st.1 ++ chunksW W w).getLastD []).length = _
      unfold lastW
      have : (st.1 ++ chunksW W w) = (st.1 ++ (chunksW W w).dropLast) ++ [(chunksW W w).getLastD []] := by
        rw [List.append_assoc]; exact congrArg (st.1 ++ ·) m2
      rw [this, List.getLastD_concat]
theorem wFold_ok {W : Nat} (hW : 1 ≤ W) : ∀ (ws : List (List Nat)), (∀ w ∈ ws, w ≠ [] ∧ ∀ r ∈ w, Scal r) → ∀ i, i ≤ ws.length → wOk W (lenS List.length (ws.take i)) (wFold W (ws.take i)) := by
  intro ws h i
  induction i with
  | zero => intro _; rw [List.take_zero]; exact ⟨Nat.le_refl _, Nat.zero_le _, (fun l hl => by cases hl), fun _ => rfl, fun h => absurd rfl h⟩
  | succ i ih =>
    intro hi
    have hi' : i < ws.length := by omega
    obtain ⟨w1, w2⟩ := h _ (List.getElem_mem hi')
    have := wStep_ok hW (ih (by omega)) w1 w2
    rw [List.take_succ_eq_append_getElem hi', wFold_snoc]
    have e : lenS List.length (ws.take i ++ [ws[i]]) = lenS List.length (ws.take i) + ws[i].length := by unfold lenS; rw [List.map_append, List.sum_append]; simp
    rw [e]; exact this
theorem lenS_take {ws : List (List Nat)} (i : Nat) : lenS List.length (ws.take i) ≤ lenS List.length ws := by
  have := congrArg (lenS List.length) (List.take_append_drop i ws)
  unfold lenS at this ⊢
  rw [List.map_append, List.sum_append] at this; omega

theorem strs_len (l : List (List Nat)) : (strs l).length = l.length := by unfold strs; rw [List.length_map]
theorem strs_app (l m : List (List Nat)) : strs (l ++ m) = strs l ++ strs m := by unfold strs; rw [List.map_append]
/-- the last line is made longer -/
theorem last_upd {out : List (List Nat)} {v : List Nat} (h : out ≠ []) : idx (strs out) (((out.length - 1 : Nat)) : Int) = some (strOf (enc (out.getLastD []))) ∧ upd (strs out) ((out.length - 1 : Nat) : Int) (strOf (enc v)) = some (strs (out.dropLast ++ [v])) := by
  have hp := List.length_pos_iff.2 h
  obtain ⟨m1, m2⟩ := getLastD_mem (d := []) h
  have hl : out.dropLast.length = out.length - 1 := List.length_dropLast ..
  refine ⟨?_, ?_⟩
  · rw [strs_get (by omega)]
    refine congrArg (fun l => some (strOf (enc l))) ?_
    have : out[out.length - 1]'(by omega) = out.getLast h := (List.getLast_eq_getElem h).symm
    rw [this]
    cases out with
    | nil => exact absurd rfl h
    | cons x l => simp [List.getLastD]
  · unfold upd
    rw [if_pos ⟨by omega, by rw [strs_len]; omega⟩, Int.toNat_natCast]
    refine congrArg some ?_
    have : strs out = strs out.dropLast ++ [strOf (enc (out.getLastD []))] := by
      conv => lhs; rw [m2]
      rw [strs_app]; rfl
    rw [this, List.set_append_right _ _ (by rw [strs_len]; omega), strs_len, hl, Nat.sub_self, strs_app]; rfl

theorem chunksF_succ (W f : Nat) (l : List Nat) : chunksF W (f + 1) l = if W < l.length then l.take W :: chunksF W f (l.drop W) else [l] := rfl
theorem chunksW_more {W : Nat} (hW : 1 ≤ W) {l : List Nat} (h : W < l.length) : chunksW W l = l.take W :: chunksW W (l.drop W) := by
  unfold chunksW
  obtain ⟨f, e⟩ : ∃ f, l.length = f + 1 := ⟨l.length - 1, by omega⟩
  rw [e, chunksF_succ, if_pos h, chunksF_more hW f (l.drop W) (l.drop W).length (by rw [List.length_drop]; omega) (Nat.le_refl _)]
theorem chunksW_done {W : Nat} {l : List Nat} (h : l.length ≤ W) : chunksW W l = [l] := by
  have : ∀ f, chunksF W f l = [l] := fun f => by
    cases f with
    | zero => rfl
    | succ f => rw [chunksF_succ, if_neg (by omega)]
  exact this _
theorem sub_ints {l : List Nat} {a b : Nat} (h : a ≤ b) (h2 : b ≤ l.length) : sub (ints l) (a : Int) (b : Int) = some (ints ((l.take b).drop a)) := by
  rw [sub_ok (by omega) (by omega) (by rw [ints_len]; omega), Int.toNat_natCast, Int.toNat_natCast]
  unfold ints
  rw [List.map_drop, List.map_take]
theorem wA_enc : ∀ (b cur : List Nat), ∀ w ∈ wA cur b, (enc w).length ≤ (enc cur).length + (enc b).length
  | [], cur => by
    unfold wA
    by_cases hc : cur = []
    · rw [if_pos hc]; intro w hw; cases hw
    · rw [if_neg hc]; intro w hw; rw [List.mem_singleton.1 hw]; omega
  | c :: b, cur => by
    have he : (enc (c :: b)).length = (enc [c]).length + (enc b).length := by rw [← List.length_append, ← enc_app]; rfl
    unfold wA
    by_cases hbl : blankN c = true
    · rw [if_pos hbl]
      have ih := wA_enc b []
      have h0 : (enc []).length = 0 := rfl
      by_cases hc : cur = []
      · rw [if_pos hc]
        intro w hw
        have := ih w hw
        omega
      · rw [if_neg hc]
        intro w hw
        rcases List.mem_cons.1 hw with e | e
        · rw [e]; omega
        · have := ih w e
          omega
    · rw [if_neg hbl]
      intro w hw
      have := wA_enc b (cur ++ [c]) w hw
      rw [enc_app, List.length_append] at this
      omega
theorem words_enc {p w : List Nat} (h : w ∈ wordsL p) : (enc w).length ≤ (enc p).length := by
  have := wA_enc p [] w h
  have h0 : (enc []).length = 0 := rfl
  omega
/-- one word -/
theorem wordstep {V : Nat} (hV : 1 ≤ V ∧ V ≤ 4000) {w : List Nat} {out : List (List Nat)} {used : Nat} (w1 : w ≠ []) (w2 : ∀ r ∈ w, Scal r) (hw : w.length ≤ 1048577) (ho : out.length ≤ 1048577) (o1 : used ≤ V) (o3 : ∀ l ∈ out, l.length ≤ V ∧ ∀ r ∈ l, Scal r) (o4 : out = [] → used = V) (o5 : out ≠ [] → (out.getLastD []).length = used) (hwe : (enc w).length ≤ 1048576) :
    Tot (fun n => Option.bind (rn (strOf (enc w))) fun l106 => (if (decide (((List.length l106 : Nat) : Int) < ((V - used : Nat) : Int))) then (Option.bind (idx (strs out) (IntKind.i64.wrap (((List.length (strs out) : Nat) : Int) - 1))) fun x111 => (Option.bind (cat (strOf [32]) (strOf (enc w))) fun x114 => (Option.bind (cat x111 x114) fun x116 => (Option.bind (idx (strs out) (IntKind.i64.wrap (((List.length (strs out) : Nat) : Int) - 1))) fun x118 => (Option.bind (upd (strs out) (IntKind.i64.wrap (((List.length (strs out) : Nat) : Int) - 1)) x116) fun l120 => (Option.bind (some (IntKind.i64.wrap (((V - used : Nat) : Int) - (IntKind.i64.wrap (((List.length l106 : Nat) : Int) + 1))))) fun n127 => (some ((l120, n127))))))))) else (Option.bind (loopN (fun (s138 : ((List ByteArray) × (List Int))) => (if (decide (((List.length s138.2 : Nat) : Int) > (V : Int))) then (Option.bind (sub s138.2 0 (V : Int)) fun x168 => (Option.bind (sub s138.2 (V : Int) ((List.length s138.2 : Nat) : Int)) fun x175 => (Option.bind (app s138.1 ([(strR x168)] : List ByteArray)) fun l195 => (some (.inl (l195, x175)))))) else (some (.inr ((s138.1, s138.2)))))) n (strs out, l106)) fun (j136 : ((List ByteArray) × (List Int))) => (Option.bind (app j136.1 ([(strR j136.2)] : List ByteArray)) fun l262 => (Option.bind (some (IntKind.i64.wrap ((V : Int) - ((List.length j136.2 : Nat) : Int)))) fun n286 => (some ((l262, n286))))))))
      (fun j => j = (strs (wStep V (out, used) w).1, ((V - (wStep V (out, used) w).2 : Nat) : Int))) := by
  refine Tot.bind0 (rn_enc w2 hwe) ?_
  have hwp := List.length_pos_iff.2 w1
  rw [ints_len]
  refine Tot.ite (fun g => ?_) fun g => ?_
  · have g : w.length < V - used := by have := of_decide_eq_true g; omega
    have hne : out ≠ [] := fun e => by have := o4 e; omega
    have hp := List.length_pos_iff.2 hne
    have hl5 := o5 hne
    obtain ⟨m1, m2⟩ := getLastD_mem (d := []) hne
    have hc := enc_len_le (out.getLastD [])
    have hs : wStep V (out, used) w = (out.dropLast ++ [out.getLastD [] ++ 32 :: w], used + 1 + w.length) := by
      unfold wStep; rw [if_pos ⟨by dsimp only; omega, hne⟩]
    obtain ⟨u1, u2⟩ := last_upd (v := out.getLastD [] ++ 32 :: w) hne
    rw [hs, strs_len, iw (n := out.length - 1) (by omega) (by omega)]
    refine Tot.bind0 u1 (Tot.bind0 (cat_str (by simp only [List.length_cons, List.length_nil]; omega)) (Tot.bind0 (cat_str (by simp only [List.length_append, List.length_cons, List.length_nil]; omega)) (Tot.bind0 u1 ?_)))
    have e : enc (out.getLastD []) ++ ([32] ++ enc w) = enc (out.getLastD [] ++ 32 :: w) := by rw [enc_app]; rfl
    rw [e]
    refine Tot.bind0 u2 (Tot.bind0 rfl (Tot.ret ?_))
    rw [iw (x := (w.length : Int) + 1) (n := w.length + 1) (by omega) (by omega), iw (n := V - (used + 1 + w.length)) (by omega) (by omega)]
  · have g : ¬ w.length < V - used := by have := of_decide_eq_false g; omega
    have hs : wStep V (out, used) w = (out ++ chunksW V w, (lastW V w).length) := by
      unfold wStep; rw [if_neg (fun c => by have := c.1; dsimp only at this; omega)]
    rw [hs]
    have hcl := (chunks_spec hV.1 w1).2.2
    refine Tot.bindq (P := fun j => ∃ done rest, j = (strs (out ++ done), ints rest) ∧ done ++ [rest] = chunksW V w ∧ rest.length ≤ V ∧ ∀ r ∈ rest, Scal r) ?_ fun j hj => ?_
    · refine Tot.loop (fun st => ∃ done rest, st = (strs (out ++ done), ints rest) ∧ done ++ chunksW V rest = chunksW V w ∧ ∀ r ∈ rest, Scal r) (fun st => st.2.length) ⟨[], w, by rw [List.append_nil], rfl, w2⟩ fun st ⟨done, rest, e, he, hr⟩ => ?_
      subst e
      dsimp only
      rw [ints_len]
      refine Tot.ite (fun g => ?_) fun g => ?_
      · have g : V < rest.length := by have := of_decide_eq_true g; omega
        have h1 := sub_ints (l := rest) (a := 0) (b := V) (by omega) (by omega)
        have h2 := sub_ints (l := rest) (a := V) (b := rest.length) (by omega) (by omega)
        rw [List.drop_zero] at h1
        rw [List.take_length] at h2
        have ht : ∀ r ∈ rest.take V, Scal r := fun r h => hr r (List.mem_of_mem_take h)
        have hd : ∀ r ∈ rest.drop V, Scal r := fun r h => hr r (List.mem_of_mem_drop h)
        have hdl : done.length ≤ (chunksW V w).length := by rw [← he, List.length_append]; omega
        refine Tot.bind0 h1 (Tot.bind0 h2 (Tot.bind0 (app_ok (by rw [strs_len, List.length_append, List.length_singleton]; omega)) (Tot.ret ⟨⟨done ++ [rest.take V], rest.drop V, ?_, ?_, hd⟩, ?_⟩)))
        · rw [strR_ints ht, ← List.append_assoc, strs_app (out ++ done) [rest.take V]]; rfl
        · rw [List.append_assoc, ← he, chunksW_more hV.1 g]; rfl
        · dsimp only; rw [ints_len, List.length_drop]; omega
      · have g : rest.length ≤ V := by have := of_decide_eq_false g; omega
        rw [chunksW_done g] at he
        exact Tot.ret ⟨done, rest, rfl, he, g, hr⟩
    · obtain ⟨done, rest, e, he, hl, hr⟩ := hj
      subst e
      dsimp only
      have hdl : done.length ≤ (chunksW V w).length := by rw [← he, List.length_append]; omega
      refine Tot.bind0 (app_ok (by rw [strs_len, List.length_append, List.length_singleton]; omega)) ?_
      rw [ints_len]
      refine Tot.bind0 rfl (Tot.ret ?_)
      have e2 : lastW V w = rest := by unfold lastW; rw [← he, List.getLastD_concat]
      rw [e2, strR_ints hr, ← he, ← List.append_assoc, strs_app (out ++ done) [rest], iw (n := V - rest.length) (by omega) (by omega)]; rfl

theorem Wrap_tot {s : ByteArray} {W : Int} (hs : s.size ≤ 1048576) : Tot (fun n => textstr_Wrap n s W) (fun r => if W < 1 ∨ 4000 < W then r = ([], (4, -2)) else if okS s = true then ∀ p, (∀ x ∈ p, Scal x) → s = strOf (enc p) → r = (if 1000 < (wordsL p).length then ([], (2, -1)) else if 1000 < (wFold W.toNat (wordsL p)).1.length then ([], (2, -1)) else (strs (wFold W.toNat (wordsL p)).1, (0, 0))) else r = ([], (6, -1))) := by
  unfold textstr_Wrap
  refine Tot.ite (fun h => ?_) fun h => ?_
  · rw [Bool.or_eq_true] at h
    have h : W < 1 ∨ 4000 < W := h.imp of_decide_eq_true of_decide_eq_true
    exact Tot.bindq (tat_tot _ _) fun r hr => Tot.ret (by rw [if_pos h, hr])
  have h : ¬ (W < 1 ∨ 4000 < W) := fun hh => by
    rcases hh with hh | hh
    · rw [decide_eq_true hh] at h; cases h
    · rw [decide_eq_true (show W > 4000 from hh), Bool.or_true] at h; cases h
  refine Tot.mono (Q := fun r => if okS s = true then ∀ p, (∀ x ∈ p, Scal x) → s = strOf (enc p) → r = (if 1000 < (wordsL p).length then ([], (2, -1)) else if 1000 < (wFold W.toNat (wordsL p)).1.length then ([], (2, -1)) else (strs (wFold W.toNat (wordsL p)).1, (0, 0))) else r = ([], (6, -1))) ?_ (fun r hr => by rw [if_neg h]; exact hr)
  refine Tot.bindq (Words_tot hs) fun r hr => ?_
  by_cases hok : okS s = true
  · rw [if_pos hok] at hr
    refine Tot.mono (Q := fun r => ∀ p, (∀ x ∈ p, Scal x) → s = strOf (enc p) → r = (if 1000 < (wordsL p).length then ([], (2, -1)) else if 1000 < (wFold W.toNat (wordsL p)).1.length then ([], (2, -1)) else (strs (wFold W.toNat (wordsL p)).1, (0, 0)))) ?_ (fun r hr => by rw [if_pos hok]; exact hr)
    obtain ⟨p, hp, e, hl⟩ := okS_text hok
    subst e
    have hr := hr p hp rfl
    have huniq : ∀ r : (List ByteArray) × (Int × Int), r = (if 1000 < (wordsL p).length then ([], (2, -1)) else if 1000 < (wFold W.toNat (wordsL p)).1.length then ([], (2, -1)) else (strs (wFold W.toNat (wordsL p)).1, (0, 0))) → ∀ q, (∀ x ∈ q, Scal x) → strOf (enc p) = strOf (enc q) → r = (if 1000 < (wordsL q).length then ([], (2, -1)) else if 1000 < (wFold W.toNat (wordsL q)).1.length then ([], (2, -1)) else (strs (wFold W.toNat (wordsL q)).1, (0, 0))) := by
      intro r hr q hq e
      rw [← str_enc_inj hp hq e]; exact hr
    refine Tot.mono ?_ huniq
    by_cases hm : 1000 < (wordsL p).length
    · rw [if_pos hm] at hr; subst hr
      exact Tot.it rfl (Tot.ret (by rw [if_pos hm]))
    · rw [if_neg hm] at hr; subst hr
      refine Tot.if_ rfl ?_
      have hsc := wA_scal (P := Scal) p [] (by simp) hp
      have hso := wA_solid p [] (by simp)
      have htot := words_total p
      have hpl := enc_len_ge p
      have hwe : ∀ w ∈ wordsL p, (enc w).length ≤ 1048576 := fun w hw => by have := words_enc hw; omega
      have hws : ∀ w ∈ wordsL p, w ≠ [] ∧ ∀ r ∈ w, Scal r := fun w hw => ⟨(hso w hw).1, hsc w hw⟩
      generalize wordsL p = ws at *
      obtain ⟨V, rfl⟩ : ∃ V : Nat, W = V := ⟨W.toNat, by omega⟩
      rw [Int.toNat_natCast]
      have hV : 1 ≤ V ∧ V ≤ 4000 := by omega
      have hfo := wFold_ok hV.1 ws hws
      dsimp only
      rw [strs_len]
      refine Tot.bindq (P := fun j => j = strs (wFold V ws).1) ?_ fun j hj => ?_
      · refine Tot.loop (fun st => ∃ i : Nat, st = (strs (wFold V (ws.take i)).1, ((V - (wFold V (ws.take i)).2 : Nat) : Int), (i : Int)) ∧ i ≤ ws.length) (fun st => ws.length - st.2.2.toNat) ⟨0, by simp [wFold, strs], Nat.zero_le _⟩ fun st ⟨i, e, hi⟩ => ?_
        subst e
        dsimp only
        refine Tot.ite (fun g => ?_) fun g => ?_
        · have g : i < ws.length := by have := of_decide_eq_true g; omega
          obtain ⟨w1, w2⟩ := hws _ (List.getElem_mem g)
          have hok := hfo i (by omega)
          have hlt := lenS_take (ws := ws) i
          have hwl := lenS_mem (f := List.length) (List.getElem_mem g)
          have hwe := hwe _ (List.getElem_mem g)
          have hstep : wFold V (ws.take (i + 1)) = wStep V (wFold V (ws.take i)) ws[i] := by rw [List.take_succ_eq_append_getElem g, wFold_snoc]
          refine Tot.bindq (P := fun j => j = (strs (wFold V (ws.take (i + 1))).1, ((V - (wFold V (ws.take (i + 1))).2 : Nat) : Int))) ?_ fun j hj => Tot.ret ⟨⟨i + 1, ?_, g⟩, ?_⟩
          · rw [hstep]
            generalize wFold V (ws.take i) = st at hok ⊢
            obtain ⟨out, used⟩ := st
            obtain ⟨o1, o2, o3, o4, o5⟩ := hok
            dsimp only at o1 o2 o3 o4 o5 ⊢
            refine Tot.bind0 (strs_get g) ?_
            generalize ws[i] = w at w1 w2 hwl hwe ⊢
            exact wordstep hV w1 w2 (by omega) (by omega) o1 o3 o4 o5 hwe
          · rw [hj, iw (n := i + 1) (by omega) (by omega)]
          · dsimp only; rw [iw (n := i + 1) (by omega) (by omega)]; omega
        · have g : i = ws.length := by have := of_decide_eq_false g; omega
          subst g
          exact Tot.ret (by rw [List.take_length])
      · subst hj
        refine Tot.bindq pieces_tot fun r hr => Tot.ret ?_
        rw [strs_len] at hr
        rw [if_neg hm, hr]
  · have hok : okS s = false := by cases hh : okS s <;> simp_all
    rw [if_neg (by rw [hok]; simp)] at hr
    subst hr
    exact Tot.it rfl (Tot.ret (by rw [if_neg (by rw [hok]; simp)]))
end Go.Gv.R
namespace Go.Gv.R
open Go Go.Gv Go.Gv.D Go.Lib

theorem sub_ints' {l : List Nat} {x y : Int} {a b : Nat} (hx : x = a) (hy : y = b) (h : a ≤ b) (h2 : b ≤ l.length) : sub (ints l) x y = some (ints ((l.take b).drop a)) := by
  subst hx hy; exact sub_ints h h2
/-- one word, the other way -/
theorem refstep {V : Nat} (hV : 1 ≤ V ∧ V ≤ 4000) {w : List Nat} {ws : List ByteArray} {i : Nat} {out : List (List Nat)} {used : Nat} (hg : idx ws (i : Int) = some (strOf (enc w))) (w1 : w ≠ []) (w2 : ∀ r ∈ w, Scal r) (hw : w.length ≤ 1048577) (ho : out.length ≤ 1048577) (o1 : used ≤ V) (o3 : ∀ l ∈ out, l.length ≤ V ∧ ∀ r ∈ l, Scal r) (hwe : (enc w).length ≤ 1048576) :
    Tot (fun fuel => Option.bind (idx ws (i : Int)) fun x14 => (Option.bind (ref4_Points fuel x14) fun r16 => (if ((decide ((IntKind.i64.wrap ((IntKind.i64.wrap ((used : Int) + 1)) + ((List.length r16.1 : Nat) : Int))) ≤ (V : Int))) && (decide (((List.length (strs out) : Nat) : Int) > 0))) then (Option.bind (idx (strs out) (IntKind.i64.wrap (((List.length (strs out) : Nat) : Int) - 1))) fun x31 => (Option.bind (idx ws (i : Int)) fun x35 => (Option.bind (cat (strOf [32]) x35) fun x39 => (Option.bind (cat x31 x39) fun x41 => (Option.bind (idx (strs out) (IntKind.i64.wrap (((List.length (strs out) : Nat) : Int) - 1))) fun x43 => (Option.bind (upd (strs out) (IntKind.i64.wrap (((List.length (strs out) : Nat) : Int) - 1)) x41) fun l45 => (Option.bind (some (IntKind.i64.wrap ((used : Int) + (IntKind.i64.wrap (1 + ((List.length r16.1 : Nat) : Int)))))) fun n52 => (some ((l45, n52)))))))))) else (Option.bind (loopN (fun (s58 : ((List ByteArray) × Int × Int)) => (if (decide (s58.2.2 < ((List.length r16.1 : Nat) : Int))) then (Option.bind (if (decide ((IntKind.i64.wrap (s58.2.2 + (V : Int))) > ((List.length r16.1 : Nat) : Int))) then (some (((List.length r16.1 : Nat) : Int))) else (some ((IntKind.i64.wrap (s58.2.2 + (V : Int)))))) fun (j74 : Int) => (Option.bind (sub r16.1 s58.2.2 j74) fun x82 => (Option.bind (ref4_String fuel x82) fun r88 => (Option.bind (app s58.1 ([r88] : List ByteArray)) fun l105 => (some (.inl (l105, (IntKind.i64.wrap (j74 - s58.2.2)), (IntKind.i64.wrap (s58.2.2 + (V : Int)))))))))) else (some (.inr ((s58.1, s58.2.1)))))) fuel (strs out, (used : Int), 0)) fun (j56 : ((List ByteArray) × Int)) => (some ((j56.1, j56.2)))))))
      (fun j => j = (strs (wStep V (out, used) w).1, ((wStep V (out, used) w).2 : Int))) := by
  refine Tot.bind0 hg (Tot.bindq (points_enc w2 hwe) fun r hr => ?_)
  subst hr
  dsimp only
  have hwp := List.length_pos_iff.2 w1
  rw [ints_len, strs_len, iw (x := (used : Int) + 1) (n := used + 1) (by omega) (by omega), iw (x := ((used + 1 : Nat) : Int) + (w.length : Int)) (n := used + 1 + w.length) (by omega) (by omega)]
  refine Tot.ite (fun g => ?_) fun g => ?_
  · rw [Bool.and_eq_true] at g
    have g1 : used + 1 + w.length ≤ V := by have := of_decide_eq_true g.1; omega
    have hp : 0 < out.length := by have := of_decide_eq_true g.2; omega
    have hne : out ≠ [] := List.length_pos_iff.1 hp
    obtain ⟨m1, m2⟩ := getLastD_mem (d := []) hne
    have hc := enc_len_le (out.getLastD [])
    have hl5 := (o3 _ m1).1
    have hs : wStep V (out, used) w = (out.dropLast ++ [out.getLastD [] ++ 32 :: w], used + 1 + w.length) := by
      unfold wStep; rw [if_pos ⟨g1, hne⟩]
    obtain ⟨u1, u2⟩ := last_upd (v := out.getLastD [] ++ 32 :: w) hne
    rw [hs, iw (x := (out.length : Int) - 1) (n := out.length - 1) (by omega) (by omega)]
    refine Tot.bind0 u1 (Tot.bind0 hg (Tot.bind0 (cat_str (by simp only [List.length_cons, List.length_nil]; omega)) (Tot.bind0 (cat_str (by simp only [List.length_append, List.length_cons, List.length_nil]; omega)) (Tot.bind0 u1 ?_))))
    have e : enc (out.getLastD []) ++ ([32] ++ enc w) = enc (out.getLastD [] ++ 32 :: w) := by rw [enc_app]; rfl
    rw [e]
    refine Tot.bind0 u2 (Tot.bind0 rfl (Tot.ret ?_))
    rw [iw (x := 1 + (w.length : Int)) (n := 1 + w.length) (by omega) (by omega), iw (n := used + 1 + w.length) (by omega) (by omega)]
  · have g : ¬ (used + 1 + w.length ≤ V ∧ out ≠ []) := by
      intro h
      have := List.length_pos_iff.2 h.2
      rw [decide_eq_true (by omega), decide_eq_true (by omega)] at g; cases g
    have hs : wStep V (out, used) w = (out ++ chunksW V w, (lastW V w).length) := by
      unfold wStep; rw [if_neg g]
    rw [hs]
    have hcl := (chunks_spec hV.1 w1).2.2
    refine Tot.bindq (P := fun j => j = (strs (out ++ chunksW V w), ((lastW V w).length : Int))) ?_ fun j hj => Tot.ret (by rw [hj])
    refine Tot.loop (fun st => (∃ (done : List (List Nat)) (u : Int) (k : Nat), st = (strs (out ++ done), u, (k : Int)) ∧ done ++ chunksW V (w.drop k) = chunksW V w ∧ k < w.length) ∨ ∃ k : Nat, st = (strs (out ++ chunksW V w), ((lastW V w).length : Int), (k : Int)) ∧ w.length ≤ k) (fun st => w.length - st.2.2.toNat) (.inl ⟨[], used, 0, by rw [List.append_nil]; rfl, rfl, hwp⟩) fun st hst => ?_
    rcases hst with ⟨done, u, k, e, he, hk⟩ | ⟨k, e, hk⟩
    · subst e
      dsimp only
      refine Tot.it (decide_eq_true (by omega)) ?_
      rw [iw (x := (k : Int) + (V : Int)) (n := k + V) (by omega) (by omega)]
      have hdl : done.length ≤ (chunksW V w).length := by rw [← he, List.length_append]; omega
      have hkl : (w.drop k).length = w.length - k := List.length_drop ..
      refine Tot.bindq (P := fun j => j = ((min (k + V) w.length : Nat) : Int)) ?_ fun j hj => ?_
      · refine Tot.ite (fun g => Tot.ret ?_) fun g => Tot.ret ?_
        · have g := of_decide_eq_true g; omega
        · have g := of_decide_eq_false g; omega
      have hj' := hj
      refine Tot.bind0 (sub_ints' rfl hj' (by omega) (Nat.min_le_right _ _)) ?_
      have hpc : ∀ r ∈ (w.take (min (k + V) w.length)).drop k, Scal r := fun r h => w2 r (List.mem_of_mem_take (List.mem_of_mem_drop h))
      refine Tot.bindq (String_tot hpc (by rw [List.length_drop, List.length_take]; omega)) fun r hr => ?_
      subst hr
      refine Tot.bind0 (app_ok (by rw [strs_len, List.length_append, List.length_singleton]; omega)) (Tot.ret ?_)
      rw [hj, iw (x := ((min (k + V) w.length : Nat) : Int) - (k : Int)) (n := min (k + V) w.length - k) (by omega) (by omega)]
      have hpe : (w.take (min (k + V) w.length)).drop k = (w.drop k).take V := by
        rw [List.drop_take]
        by_cases hh : k + V ≤ w.length
        · rw [Nat.min_eq_left hh, Nat.add_sub_cancel_left]
        · rw [Nat.min_eq_right (by omega), List.take_of_length_le (by rw [List.length_drop]; omega), List.take_of_length_le (by rw [List.length_drop]; omega)]
      rw [hpe]
      have happ : strs (out ++ done) ++ [strOf (enc ((w.drop k).take V))] = strs (out ++ (done ++ [(w.drop k).take V])) := by rw [← List.append_assoc, strs_app (out ++ done) _]; rfl
      by_cases hm : V < (w.drop k).length
      · refine ⟨.inl ⟨done ++ [(w.drop k).take V], _, k + V, by rw [happ], ?_, by omega⟩, ?_⟩
        · rw [← he, List.append_assoc, chunksW_more hV.1 hm, List.drop_drop]; rfl
        · dsimp only; omega
      · have ht : (w.drop k).take V = w.drop k := List.take_of_length_le (by omega)
        have hch : chunksW V w = done ++ [w.drop k] := by rw [← he, chunksW_done (by omega)]
        have hla : lastW V w = w.drop k := by unfold lastW; rw [hch, List.getLastD_concat]
        refine ⟨.inr ⟨k + V, ?_, by omega⟩, ?_⟩
        · rw [happ, ht, ← hch, hla, hkl, Nat.min_eq_right (by omega)]
        · dsimp only; omega
    · subst e
      exact Tot.if_ (decide_eq_false (by dsimp only; omega)) (Tot.ret rfl)

theorem Wrapped_tot {ws : List (List Nat)} {V : Nat} (hV : 1 ≤ V ∧ V ≤ 4000) (hws : ∀ w ∈ ws, w ≠ [] ∧ ∀ r ∈ w, Scal r) (hwe : ∀ w ∈ ws, (enc w).length ≤ 1048576) (htot : lenS List.length ws + ws.length ≤ 1048577) : Tot (fun n => ref4_Wrapped n (strs ws) (V : Int)) (· = strs (wFold V ws).1) := by
  unfold ref4_Wrapped
  have hfo := wFold_ok hV.1 ws hws
  rw [strs_len]
  refine Tot.bindq (P := fun j => j = strs (wFold V ws).1) ?_ fun j hj => Tot.ret hj
  refine Tot.loop (fun st => ∃ i : Nat, st = (strs (wFold V (ws.take i)).1, ((wFold V (ws.take i)).2 : Int), (i : Int)) ∧ i ≤ ws.length) (fun st => ws.length - st.2.2.toNat) ⟨0, by simp [wFold, strs], Nat.zero_le _⟩ fun st ⟨i, e, hi⟩ => ?_
  subst e
  dsimp only
  refine Tot.ite (fun g => ?_) fun g => ?_
  · have g : i < ws.length := by have := of_decide_eq_true g; omega
    obtain ⟨w1, w2⟩ := hws _ (List.getElem_mem g)
    have hok := hfo i (by omega)
    have hlt := lenS_take (ws := ws) i
    have hwl := lenS_mem (f := List.length) (List.getElem_mem g)
    have hwe := hwe _ (List.getElem_mem g)
    have hstep : wFold V (ws.take (i + 1)) = wStep V (wFold V (ws.take i)) ws[i] := by rw [List.take_succ_eq_append_getElem g, wFold_snoc]
    refine Tot.bindq (P := fun j => j = (strs (wFold V (ws.take (i + 1))).1, ((wFold V (ws.take (i + 1))).2 : Int))) ?_ fun j hj => Tot.ret ⟨⟨i + 1, ?_, g⟩, ?_⟩
    · rw [hstep]
      generalize wFold V (ws.take i) = st at hok ⊢
      obtain ⟨out, used⟩ := st
      obtain ⟨o1, o2, o3, o4, o5⟩ := hok
      dsimp only at o1 o2 o3 o4 o5 ⊢
      exact refstep hV (strs_get g) w1 w2 (by omega) (by omega) o1 o3 hwe
    · rw [hj, iw (n := i + 1) (by omega) (by omega)]
    · dsimp only; rw [iw (n := i + 1) (by omega) (by omega)]; omega
  · have g : i = ws.length := by have := of_decide_eq_false g; omega
    subst g
    exact Tot.ret (by rw [List.take_length])
/-- the distance, whatever comes -/
theorem Distance_any {s t : ByteArray} (hs : s.size ≤ 1048576) (ht : t.size ≤ 1048576) : Tot (fun n => textstr_Distance n s t) (fun r => (∀ p q, (∀ x ∈ p, Scal x) → (∀ x ∈ q, Scal x) → (enc p).length ≤ 4000 → (enc q).length ≤ 4000 → s = strOf (enc p) → t = strOf (enc q) → r = ((dst p.reverse q.reverse : Int), (0, 0))) ∧ ((faultL [s, t] 0).1 ≠ 0 → r = (0, faultL [s, t] 0))) := by
  have h2 : ∀ {x}, x ∈ [s, t] → x.size ≤ 1048576 := by
    intro x hx
    simp at hx; rcases hx with e | e <;> subst e <;> assumption
  by_cases hk : okS s = true ∧ okS t = true
  · obtain ⟨p, hp, e1, hl1⟩ := okS_text hk.1
    obtain ⟨q, hq, e2, hl2⟩ := okS_text hk.2
    have hf : faultL [s, t] 0 = (0, 0) := by unfold faultL; rw [hk.1]; unfold faultL; rw [hk.2]; rfl
    subst e1 e2
    refine Tot.mono (Distance_tot hp hq hl1 hl2) fun r hr => ⟨fun p' q' hp' hq' _ _ e e' => ?_, fun h => absurd (by rw [hf]) h⟩
    rw [← str_enc_inj hp hp' e, ← str_enc_inj hq hq' e']; exact hr
  · unfold textstr_Distance
    refine Tot.bindq (tcheck_tot (by simp) (fun x hx => h2 hx)) fun r hr => ?_
    have hf : (faultL [s, t] 0).1 = 6 := by
      unfold faultL
      by_cases h : okS s = true
      · rw [h]
        have : okS t = false := by cases hh : okS t <;> simp_all
        unfold faultL; rw [this]; rfl
      · have : okS s = false := by cases hh : okS s <;> simp_all
        rw [this]; rfl
    subst hr
    refine Tot.it (by rw [hf]; rfl) (Tot.ret ⟨fun p q hp hq hl hl2 e e' => absurd ⟨by rw [e]; exact okS_enc hp hl, by rw [e']; exact okS_enc hq hl2⟩ hk, fun _ => rfl⟩)

theorem Wraps_tot {s t : ByteArray} {W : Int} (hs : s.size ≤ 1048576) (ht : t.size ≤ 1048576) : Tot (fun n => law4_TextstrWraps n s t W) (· = true) := by
  unfold law4_TextstrWraps
  refine Tot.bindq (Wrap_tot (W := W) hs) fun r1 h1 => Tot.bindq (points_any hs) fun r2 h2 => Tot.bindq (points_any ht) fun r3 h3 => ?_
  obtain ⟨p, hp, e2, pl, po⟩ := ptsOf_len h2
  obtain ⟨q, hq, e3, ql, qo⟩ := ptsOf_len h3
  rw [e2, e3]
  refine Tot.bindq (WordsOf_tot hp (by omega)) fun r4 h4 => ?_
  subst h4
  rw [strs_len, ints_len, ints_len]
  refine Tot.bindq (P := fun j => j = if W < 1 ∨ 4000 < W then (4, -2) else if okS s = true then (if 1000 < (wordsL p).length then (2, -1) else (0, 0)) else (6, -1)) ?_ fun j hj => ?_
  · refine Tot.ite (fun h => ?_) fun h => ?_
    · rw [Bool.or_eq_true] at h
      have h : W < 1 ∨ 4000 < W := h.imp of_decide_eq_true of_decide_eq_true
      exact Tot.bindq (rat_tot _ _) fun r hr => Tot.ret (by rw [if_pos h, hr])
    have h : ¬ (W < 1 ∨ 4000 < W) := fun hh => by
      rcases hh with hh | hh
      · rw [decide_eq_true hh] at h; cases h
      · rw [decide_eq_true (show W > 4000 from hh), Bool.or_true] at h; cases h
    rw [if_neg h]
    refine Tot.bindq (P := fun r => r = okS s) (TextOk_tot hs) fun r hr => ?_
    subst hr
    refine Tot.ite (fun g => ?_) fun g => ?_
    · have g : ¬ okS s = true := fun e => by rw [e] at g; cases g
      rw [if_neg g]
      exact Tot.bindq (rat_tot _ _) fun r hr => Tot.ret hr
    · have g : okS s = true := by cases hh : okS s <;> simp_all
      rw [if_pos g]
      refine Tot.bind0 rfl (Tot.ite (fun g => ?_) fun g => ?_)
      · have g : 1000 < (wordsL p).length := by have := of_decide_eq_true g; omega
        rw [if_pos g]
        exact Tot.bindq (rat_tot _ _) fun r hr => Tot.ret hr
      · have g : ¬ 1000 < (wordsL p).length := by have := of_decide_eq_false g; omega
        rw [if_neg g]
        exact Tot.ret rfl
  · refine Tot.bindq (P := fun j => j = false) ?_ fun j2 hj2 => ?_
    · refine Tot.bindq letters_tot fun x hx => ?_
      subst hx
      refine Tot.if_ rfl ?_
      by_cases hW : W < 1 ∨ 4000 < W
      · rw [if_pos hW] at hj h1
        subst hj h1
        refine Tot.it rfl (Tot.bindq (list_tot (by rw [if_neg (by simp), if_pos (by simp)])) fun x hx => ?_)
        subst hx
        exact Tot.if_ rfl (Tot.if_ rfl (Tot.ret rfl))
      rw [if_neg hW] at hj h1
      by_cases hok : okS s = true
      · rw [if_pos hok] at hj h1
        have h1 := h1 p hp (po hok)
        by_cases hm : 1000 < (wordsL p).length
        · rw [if_pos hm] at hj h1
          subst hj h1
          refine Tot.it rfl (Tot.bindq (list_tot (by rw [if_neg (by simp), if_pos (by simp)])) fun x hx => ?_)
          subst hx
          exact Tot.if_ rfl (Tot.if_ rfl (Tot.ret rfl))
        · rw [if_neg hm] at hj h1
          subst hj
          obtain ⟨V, rfl⟩ : ∃ V : Nat, W = V := ⟨W.toNat, by omega⟩
          rw [Int.toNat_natCast] at h1
          have hpl := enc_len_le p
          have hse := po hok
          have hle : (enc p).length = s.size := by rw [hse, size_str]
          have htot := words_total p
          refine Tot.if_ rfl (Tot.it rfl (Tot.bindq (Wrapped_tot (by omega) (fun w hw => ⟨(wA_solid p [] (by simp) w hw).1, wA_scal (P := Scal) p [] (by simp) hp w hw⟩) (fun w hw => by have := words_enc hw; omega) (by omega)) fun r hr => ?_))
          subst hr
          refine Tot.bindq (list_tot ?_) fun x hx => Tot.ret (by rw [hx]; rfl)
          subst h1
          rw [strs_len]
          by_cases hc : 1000 < (wFold V (wordsL p)).1.length
          · rw [if_pos hc, if_pos ⟨rfl, hc⟩]
          · rw [if_neg hc, if_neg (fun h => hc h.2), if_neg (by simp)]
      · rw [if_neg hok] at hj h1
        subst hj h1
        refine Tot.it rfl (Tot.bindq (list_tot (by rw [if_neg (by simp), if_pos (by simp)])) fun x hx => ?_)
        subst hx
        exact Tot.if_ rfl (Tot.if_ rfl (Tot.ret rfl))
    · subst hj2
      refine Tot.if_ rfl (Tot.ite (fun _ => Tot.ret rfl) fun g => ?_)
      have g : p.length ≤ 400 ∧ q.length ≤ 400 := by
        rw [Bool.or_eq_false_iff] at g
        have g1 := of_decide_eq_false g.1
        have g2 := of_decide_eq_false g.2
        omega
      have h2 : ∀ {x}, x ∈ [s, t] → x.size ≤ 1048576 := by
        intro x hx
        simp at hx; rcases hx with e | e <;> subst e <;> assumption
      refine Tot.bindq (Distance_any hs ht) fun r5 h5 => Tot.bindq (faults_tot (by simp) (fun x hx => h2 hx)) fun r6 h6 => ?_
      subst h6
      obtain ⟨d1, d2⟩ := h5
      refine Tot.bindq (P := fun j => j = true) ?_ fun j hj => Tot.ret hj
      by_cases hk : okS s = true ∧ okS t = true
      · have hf : faultL [s, t] 0 = (0, 0) := by unfold faultL; rw [hk.1]; unfold faultL; rw [hk.2]; rfl
        have hl1 : (enc p).length ≤ 4000 := by
          obtain ⟨p', hp', e, hl⟩ := okS_text hk.1
          have := str_enc_inj hp hp' ((po hk.1).symm.trans e)
          rw [this]; exact hl
        have hl2 : (enc q).length ≤ 4000 := by
          obtain ⟨p', hp', e, hl⟩ := okS_text hk.2
          have := str_enc_inj hq hp' ((qo hk.2).symm.trans e)
          rw [this]; exact hl
        have := d1 p q hp hq hl1 hl2 (po hk.1) (qo hk.2)
        subst this
        rw [hf]
        refine Tot.it rfl (Tot.if_ rfl (Tot.it rfl (Tot.bindq (Changes_tot g.1 g.2) fun r hr => Tot.ret ?_)))
        rw [hr]; exact beq_self_eq_true _
      · have hf : (faultL [s, t] 0).1 = 6 := by
          unfold faultL
          by_cases h : okS s = true
          · rw [h]
            have : okS t = false := by cases hh : okS t <;> simp_all
            unfold faultL; rw [this]; rfl
          · have : okS s = false := by cases hh : okS s <;> simp_all
            rw [this]; rfl
        have := d2 (by rw [hf]; decide)
        subst this
        refine Tot.it (by simp) (Tot.it (by rw [hf]; rfl) (Tot.it rfl (Tot.ret rfl)))
theorem TextstrWraps_said (s t : ByteArray) (w : Int) (_ : s.size ≤ maxLen) (_ : t.size ≤ maxLen) (_ : inK .i64 w) (h : (s.size + 1) + ((t.size + 1) + 1) ≤ 1048576) : Tot (fun n => law4_TextstrWraps n s t w) (· = true) := Wraps_tot (by omega) (by omega)
end Go.Gv.R

