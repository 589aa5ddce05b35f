import Derived.Test.YtkmcegicngjhbaaDoorK3
set_option linter.all false
namespace Go.Gv.R
open Go Go.Gv Go.Gv.D Go.Lib

/-! a line's words -/
def bl : List (List Nat) → List Nat
  | [] => []
  | w :: ws => w ++ ws.flatMap fun x => 32 :: x
theorem bl_snoc {g : List (List Nat)} (h : g ≠ []) (w : List Nat) : bl (g ++ [w]) = bl g ++ 32 :: w := by
  cases g with
  | nil => exact absurd rfl h
  | cons x g => show x ++ (g ++ [w]).flatMap _ = (x ++ g.flatMap _) ++ 32 :: w; rw [List.flatMap_append, List.append_assoc]; simp
def solidW (w : List Nat) : Prop := w ≠ [] ∧ (∀ r ∈ w, blankN r = false) ∧ ∀ r ∈ w, Scal r
theorem wA_word : ∀ (w cur r : List Nat), (∀ x ∈ w, blankN x = false) → wA cur (w ++ r) = wA (cur ++ w) r
  | [], cur, r, _ => by rw [List.append_nil]; rfl
  | c :: w, cur, r, h => by
    have e : wA cur (c :: w ++ r) = wA (cur ++ [c]) (w ++ r) := by
      show wA cur (c :: (w ++ r)) = _
      conv => lhs; unfold wA
      rw [if_neg (by rw [h c (.head _)]; simp)]
    rw [e, wA_word w (cur ++ [c]) r (fun x hx => h x (.tail _ hx)), List.append_assoc]; rfl
theorem words_tail : ∀ (ws : List (List Nat)) (w : List Nat), w ≠ [] → (∀ x ∈ ws, solidW x) → wA w (ws.flatMap fun x => 32 :: x) = w :: ws
  | [], w, h, _ => by show wA w [] = [w]; unfold wA; rw [if_neg h]
  | x :: ws, w, h, hs => by
    have hx := hs x (.head _)
    show wA w (32 :: x ++ ws.flatMap fun x => 32 :: x) = _
    rw [List.cons_append]
    conv => lhs; unfold wA
    rw [if_pos (by decide), if_neg h, wA_word x [] _ hx.2.1, List.nil_append, words_tail ws x hx.1 (fun y hy => hs y (.tail _ hy))]
theorem words_bl {g : List (List Nat)} (h : g ≠ []) (hs : ∀ x ∈ g, solidW x) : wordsL (bl g) = g := by
  cases g with
  | nil => exact absurd rfl h
  | cons w ws =>
    have hx := hs w (.head _)
    show wA [] (w ++ ws.flatMap fun x => 32 :: x) = _
    rw [wA_word w [] _ hx.2.1, List.nil_append, words_tail ws w hx.1 (fun y hy => hs y (.tail _ hy))]

/-! lines as groups -/
def gStep (W : Nat) (st : List (List (List Nat)) × Nat) (w : List Nat) : List (List (List Nat)) × Nat :=
  if st.2 + 1 + w.length ≤ W ∧ st.1 ≠ [] then (st.1.dropLast ++ [st.1.getLastD [] ++ [w]], st.2 + 1 + w.length) else (st.1 ++ (chunksW W w).map fun c => [c], (lastW W w).length)
def gFold (W : Nat) (ws : List (List Nat)) : List (List (List Nat)) × Nat := ws.foldl (gStep W) ([], W)
theorem gFold_snoc (W : Nat) (ws : List (List Nat)) (w : List Nat) : gFold W (ws ++ [w]) = gStep W (gFold W ws) w := by
  unfold gFold; rw [List.foldl_append]; rfl
def encS (w : List Nat) : Nat := (enc w).length + 1
/-- what is true of the groups of the words ws -/
structure gOk (W : Nat) (ws : List (List Nat)) (st : List (List (List Nat)) × Nat) : Prop where
  lines : (st.1.map bl, st.2) = wFold W ws
  full : ∀ g ∈ st.1, g ≠ [] ∧ g.length ≤ ws.length ∧ (∀ w ∈ g, solidW w) ∧ (enc (bl g)).length + 1 ≤ lenS encS ws
  kept : (∀ w ∈ ws, w.length ≤ W) → st.1.flatten = ws
  greedy : (∀ w ∈ ws, w.length ≤ W) → ∀ k, k + 1 < st.1.length → W < (bl (st.1.getD k [])).length + 1 + ((st.1.getD (k + 1) []).headD []).length
theorem getLastD_map {α β : Type} (f : α → β) {l : List α} {a : α} {b : β} (h : l ≠ []) : (l.map f).getLastD b = f (l.getLastD a) := by
  obtain ⟨m1, m2⟩ := getLastD_mem (d := a) h
  conv => lhs; rw [m2]
  rw [List.map_append]
  exact List.getLastD_concat ..
theorem lenS_snoc (f : List Nat → Nat) (ws : List (List Nat)) (w : List Nat) : lenS f (ws ++ [w]) = lenS f ws + f w := by
  unfold lenS; rw [List.map_append, List.sum_append]; simp
theorem solid_sub {w c : List Nat} (h : solidW w) (hc : c ≠ []) (hs : ∀ r ∈ c, r ∈ w) : solidW c := ⟨hc, fun r hr => h.2.1 r (hs r hr), fun r hr => h.2.2 r (hs r hr)⟩
theorem enc_chunk {W : Nat} (hW : 1 ≤ W) {w c : List Nat} (h : w ≠ []) (hc : c ∈ chunksW W w) : (enc c).length ≤ (enc w).length := by
  have e := (chunks_spec hW h).1
  obtain ⟨a, b, e2⟩ := List.append_of_mem hc
  rw [e2] at e
  rw [← e, List.flatten_append, List.flatten_cons, enc_app, enc_app, List.length_append, List.length_append]
  omega
theorem gStep_ok {W : Nat} (hW : 1 ≤ W) {ws : List (List Nat)} {st : List (List (List Nat)) × Nat} {w : List Nat} (hw : solidW w) (o : wOk W (lenS List.length ws) (wFold W ws)) (h : gOk W ws st) : gOk W (ws ++ [w]) (gStep W st w) := by
  obtain ⟨gs, used⟩ := st
  have hl := h.lines
  have hu : used = (wFold W ws).2 := by rw [← hl]
  have hm : gs.map bl = (wFold W ws).1 := by rw [← hl]
  have hst : (gs.map bl, used) = wFold W ws := hl
  by_cases c : used + 1 + w.length ≤ W ∧ gs ≠ []
  · have hs : gStep W (gs, used) w = (gs.dropLast ++ [gs.getLastD [] ++ [w]], used + 1 + w.length) := by unfold gStep; rw [if_pos c]
    have hmn : gs.map bl ≠ [] := fun e => c.2 (List.map_eq_nil_iff.1 e)
    obtain ⟨m1, m2⟩ := getLastD_mem (d := []) c.2
    have hlast := h.full _ m1
    have hlen : gs.dropLast.length = gs.length - 1 := List.length_dropLast ..
    have hp := List.length_pos_iff.2 c.2
    rw [hs]
    refine ⟨?_, fun g hg => ?_, fun hh => ?_, fun hh k hk => ?_⟩
    · rw [wFold_snoc, ← hst]
      unfold wStep
      rw [if_pos ⟨c.1, hmn⟩]
      dsimp only
      rw [List.map_append, List.map_dropLast, getLastD_map bl (a := []) c.2]
      show _ = (_ ++ [bl (gs.getLastD []) ++ 32 :: w], _)
      rw [← bl_snoc hlast.1]; rfl
    · rw [List.length_append, lenS_snoc]
      rcases List.mem_append.1 hg with e | e
      · obtain ⟨f1, f2, f3, f4⟩ := h.full g (List.dropLast_subset _ e)
        exact ⟨f1, by omega, f3, by omega⟩
      · rw [List.mem_singleton.1 e]
        obtain ⟨f1, f2, f3, f4⟩ := hlast
        refine ⟨by simp, by rw [List.length_append, List.length_singleton]; omega, fun x hx => ?_, ?_⟩
        · rcases List.mem_append.1 hx with e | e
          · exact f3 x e
          · rw [List.mem_singleton.1 e]; exact hw
        · have e32 : (enc (32 :: w)).length = 1 + (enc w).length := by
            have : enc (32 :: w) = enc [32] ++ enc w := by rw [← enc_app]; rfl
            rw [this, List.length_append]; rfl
          rw [bl_snoc f1, enc_app, List.length_append, e32]
          unfold encS at *; omega
    · have hk := h.kept fun x hx => hh x (List.mem_append_left _ hx)
      dsimp only at hk ⊢
      rw [← hk]
      conv => rhs; rw [m2]
      simp
    · have hk2 := h.greedy (fun x hx => hh x (List.mem_append_left _ hx)) k
      dsimp only at hk hk2 ⊢
      rw [List.length_append, hlen, List.length_singleton] at hk
      have hk2 := hk2 (by omega)
      have hA : (gs.dropLast ++ [gs.getLastD [] ++ [w]]).getD k [] = gs.getD k [] := by
        conv => rhs; rw [m2]
        rw [List.getD_eq_getElem?_getD, List.getD_eq_getElem?_getD, List.getElem?_append_left (by omega), List.getElem?_append_left (by omega)]
      rw [hA]
      by_cases hkk : k + 1 = gs.length - 1
      · have hB : (gs.dropLast ++ [gs.getLastD [] ++ [w]]).getD (k + 1) [] = gs.getLastD [] ++ [w] := by
          rw [List.getD_eq_getElem?_getD, List.getElem?_append_right (by omega), hlen, hkk, Nat.sub_self]; rfl
        have hC : gs.getD (k + 1) [] = gs.getLastD [] := by
          conv => lhs; rw [m2]
          rw [List.getD_eq_getElem?_getD, List.getElem?_append_right (by omega), hlen, hkk, Nat.sub_self]; rfl
        rw [hC] at hk2
        rw [hB]
        have : (gs.getLastD [] ++ [w]).headD [] = (gs.getLastD []).headD [] := by
          have := hlast.1
          generalize gs.getLastD [] = g at this
          cases g with
          | nil => exact absurd rfl this
          | cons x g => rfl
        rw [this]; exact hk2
      · have hB : (gs.dropLast ++ [gs.getLastD [] ++ [w]]).getD (k + 1) [] = gs.getD (k + 1) [] := by
          conv => rhs; rw [m2]
          rw [List.getD_eq_getElem?_getD, List.getD_eq_getElem?_getD, List.getElem?_append_left (by omega), List.getElem?_append_left (by omega)]
        rw [hB]; exact hk2
  · have hs : gStep W (gs, used) w = (gs ++ (chunksW W w).map fun c => [c], (lastW W w).length) := by unfold gStep; rw [if_neg c]
    rw [hs]
    have c' : ¬ (used + 1 + w.length ≤ W ∧ gs.map bl ≠ []) := fun hh => c ⟨hh.1, fun e => hh.2 (by rw [e]; rfl)⟩
    refine ⟨?_, fun g hg => ?_, fun hh => ?_, fun hh k hk => ?_⟩
    · rw [wFold_snoc, ← hst]
      unfold wStep
      rw [if_neg c']
      dsimp only
      rw [List.map_append, List.map_map]
      have : (chunksW W w).map (bl ∘ fun c => [c]) = chunksW W w := by
        conv => rhs; rw [← List.map_id (chunksW W w)]
        exact List.map_congr_left fun x _ => by show x ++ [] = x; rw [List.append_nil]
      rw [this]
    · rw [List.length_append, lenS_snoc]
      rcases List.mem_append.1 hg with e | e
      · obtain ⟨f1, f2, f3, f4⟩ := h.full g e
        exact ⟨f1, by omega, f3, by omega⟩
      · obtain ⟨x, hx, rfl⟩ := List.mem_map.1 e
        have hc := chunks_spec hW hw.1
        have he := enc_chunk hW hw.1 hx
        refine ⟨by simp, by simp, fun y hy => ?_, ?_⟩
        · rw [List.mem_singleton.1 hy]
          exact solid_sub hw (hc.2.1 x hx).1 fun r hr => by rw [← hc.1]; exact List.mem_flatten.2 ⟨x, hx, hr⟩
        · show (enc (x ++ [])).length + 1 ≤ _
          rw [List.append_nil]; unfold encS; omega
    · have hk := h.kept fun x hx => hh x (List.mem_append_left _ hx)
      have hwl := hh w (List.mem_append_right _ (.head _))
      dsimp only at hk ⊢
      rw [chunksW_done hwl, List.flatten_append, hk]; rfl
    · have hk2 := h.greedy (fun x hx => hh x (List.mem_append_left _ hx)) k
      have hwl := hh w (List.mem_append_right _ (.head _))
      dsimp only at hk hk2 ⊢
      rw [chunksW_done hwl] at hk ⊢
      rw [List.length_append] at hk
      simp only [List.map_cons, List.map_nil, List.length_cons, List.length_nil] at hk
      by_cases hkk : k + 1 < gs.length
      · rw [List.getD_eq_getElem?_getD, List.getD_eq_getElem?_getD, List.getElem?_append_left (by omega), List.getElem?_append_left (by omega), ← List.getD_eq_getElem?_getD, ← List.getD_eq_getElem?_getD]
        exact hk2 hkk
      · have hne : gs ≠ [] := fun e => by rw [e] at hk hkk; simp at hk
        obtain ⟨m1, m2⟩ := getLastD_mem (d := []) hne
        have hk3 : k = gs.length - 1 := by omega
        have hlen : gs.dropLast.length = gs.length - 1 := List.length_dropLast ..
        have hA : (gs ++ [[w]]).getD k [] = gs.getLastD [] := by
          rw [List.getD_eq_getElem?_getD, List.getElem?_append_left (by omega)]
          conv => lhs; rw [m2]
          rw [List.getElem?_append_right (by omega), hlen, hk3, Nat.sub_self]; rfl
        have hB : (gs ++ [[w]]).getD (k + 1) [] = [w] := by
          rw [List.getD_eq_getElem?_getD, List.getElem?_append_right (by omega), show k + 1 - gs.length = 0 by omega]; rfl
        show W < (bl ((gs ++ [[w]]).getD k [])).length + 1 + (((gs ++ [[w]]).getD (k + 1) []).headD []).length
        rw [hA, hB]
        have o5 := o.2.2.2.2 (by rw [← hm]; exact fun e => hne (List.map_eq_nil_iff.1 e))
        rw [← hm, getLastD_map bl (a := []) hne, ← hu] at o5
        rw [o5]
        show W < used + 1 + w.length
        have : ¬ used + 1 + w.length ≤ W := fun e => c ⟨e, hne⟩
        omega
theorem gFold_ok {W : Nat} (hW : 1 ≤ W) (ws : List (List Nat)) (h : ∀ w ∈ ws, solidW w) : ∀ i, i ≤ ws.length → gOk W (ws.take i) (gFold W (ws.take i)) := by
  intro i
  induction i with
  | zero =>
    intro _
    rw [List.take_zero]
    exact ⟨rfl, (fun g hg => by cases hg), fun _ => rfl, fun _ k hk => absurd hk (Nat.not_lt_zero _)⟩
  | succ i ih =>
    intro hi
    have hi' : i < ws.length := by omega
    rw [List.take_succ_eq_append_getElem hi', gFold_snoc]
    exact gStep_ok hW (h _ (List.getElem_mem hi')) (wFold_ok hW ws (fun w hw => ⟨(h w hw).1, (h w hw).2.2⟩) i (by omega)) (ih (by omega))
/-- the words' bytes and the blanks between them lie in the text -/
theorem wA_encS : ∀ (b cur : List Nat), lenS encS (wA cur b) ≤ (enc cur).length + (enc b).length + 1
  | [], cur => by
    unfold wA
    by_cases hc : cur = []
    · rw [if_pos hc]; simp [lenS]
    · rw [if_neg hc]; simp [lenS, encS]
  | c :: b, cur => by
    have he : (enc (c :: b)).length = (enc [c]).length + (enc b).length := by rw [← List.length_append, ← enc_app]; rfl
    have hc1 := enc_len_ge [c]
    rw [List.length_singleton] at hc1
    have h0 : (enc []).length = 0 := rfl
    unfold wA
    by_cases hbl : blankN c = true
    · rw [if_pos hbl]
      have ih := wA_encS b []
      by_cases hc : cur = []
      · rw [if_pos hc]; omega
      · rw [if_neg hc]
        unfold lenS encS at *
        simp only [List.map_cons, List.sum_cons] at *; omega
    · rw [if_neg hbl]
      have := wA_encS b (cur ++ [c])
      rw [enc_app, List.length_append] at this
      omega
end Go.Gv.R
namespace Go.Gv.R
open Go Go.Gv Go.Gv.D Go.Lib
theorem strs_take (l : List (List Nat)) (i : Nat) : (strs l).take i = strs (l.take i) := by unfold strs; rw [List.map_take]
theorem strs_inj' {l m : List (List Nat)} (h : l = m) : strs l = strs m := by rw [h]
/-- a line of words -/
theorem Words_line {g : List (List Nat)} (h : g ≠ []) (hs : ∀ x ∈ g, solidW x) (hn : g.length ≤ 1000) (hl : (enc (bl g)).length ≤ 4000) (hsc : ∀ r ∈ bl g, Scal r) : Tot (fun n => textstr_Words n (strOf (enc (bl g)))) (· = (strs g, (0, 0))) := by
  refine Tot.mono (Words_tot (by rw [size_str]; omega)) fun r hr => ?_
  rw [if_pos (okS_enc hsc hl)] at hr
  have := hr _ hsc rfl
  rw [words_bl h hs, if_neg (by omega)] at this
  exact this
theorem LinesKept_tot {s : ByteArray} {W : Int} (hs : s.size ≤ 1048576) : Tot (fun n => law4_TextstrLinesKept n s W) (· = true) := by
  unfold law4_TextstrLinesKept
  refine Tot.bindq (Wrap_tot (W := W) hs) fun r1 h1 => Tot.bindq letters_tot fun x hx => ?_
  subst hx
  refine Tot.if_ rfl ?_
  by_cases hW : W < 1 ∨ 4000 < W
  · rw [if_pos hW] at h1; subst h1
    exact Tot.it rfl (Tot.ret rfl)
  rw [if_neg hW] at h1
  by_cases hok : okS s = true
  · rw [if_pos hok] at h1
    obtain ⟨p, hp, e, hl⟩ := okS_text hok
    have h1 := h1 p hp e
    by_cases hm : 1000 < (wordsL p).length
    · rw [if_pos hm] at h1; subst h1
      exact Tot.it rfl (Tot.ret rfl)
    rw [if_neg hm] at h1
    by_cases hm2 : 1000 < (wFold W.toNat (wordsL p)).1.length
    · rw [if_pos hm2] at h1; subst h1
      exact Tot.it rfl (Tot.ret rfl)
    rw [if_neg hm2] at h1
    obtain ⟨V, rfl⟩ : ∃ V : Nat, W = V := ⟨W.toNat, by omega⟩
    rw [Int.toNat_natCast] at h1 hm2
    have hV : 1 ≤ V ∧ V ≤ 4000 := by omega
    subst h1
    refine Tot.if_ rfl (Tot.bindq (Words_tot hs) fun r2 h2 => ?_)
    rw [if_pos hok] at h2
    have h2 := h2 p hp e
    rw [if_neg hm] at h2
    subst h2
    refine Tot.if_ rfl ?_
    have hso : ∀ w ∈ wordsL p, solidW w := fun w hw => ⟨(wA_solid p [] (by simp) w hw).1, (wA_solid p [] (by simp) w hw).2, wA_scal (P := Scal) p [] (by simp) hp w hw⟩
    have hwe : ∀ w ∈ wordsL p, (enc w).length ≤ 4000 := fun w hw => by have := words_enc hw; omega
    have htl := wA_encS p []
    have h0 : (enc []).length = 0 := rfl
    have hgo := gFold_ok hV.1 (wordsL p) hso (wordsL p).length (Nat.le_refl _)
    have hwo := wFold_ok hV.1 (wordsL p) (fun w hw => ⟨(hso w hw).1, (hso w hw).2.2⟩) (wordsL p).length (Nat.le_refl _)
    rw [List.take_length] at hgo hwo
    have htl : lenS encS (wordsL p) ≤ 4001 := by unfold wordsL; omega
    generalize wordsL p = ws at *
    obtain ⟨gl, gf, gk, gg⟩ := hgo
    have gl1 : (wFold V ws).1 = (gFold V ws).1.map bl := by rw [← gl]
    obtain ⟨_, _, o3, _, _⟩ := hwo
    rw [gl1] at hm2 o3 ⊢
    generalize (gFold V ws).1 = gs at *
    rw [List.length_map] at hm2
    dsimp only
    rw [strs_len, strs_len, List.length_map]
    have hline : ∀ g ∈ gs, g ≠ [] ∧ g.length ≤ 1000 ∧ (∀ w ∈ g, solidW w) ∧ (enc (bl g)).length ≤ 4000 ∧ (bl g).length ≤ V ∧ (∀ r ∈ bl g, Scal r) := fun g hg => by
      obtain ⟨f1, f2, f3, f4⟩ := gf g hg
      obtain ⟨k1, k2⟩ := o3 _ (List.mem_map_of_mem hg)
      exact ⟨f1, by omega, f3, by omega, k1, k2⟩
    have hget : ∀ i (h : i < gs.length), idx (strs (gs.map bl)) (i : Int) = some (strOf (enc (bl gs[i]))) := fun i h => by
      rw [strs_get (by rw [List.length_map]; exact h)]; rw [List.getElem_map]
    refine Tot.bindq (P := fun j => j = false → ∀ w ∈ ws, w.length ≤ V) ?_ fun long hlong => ?_
    · refine Tot.loop (fun st => ∃ i : Nat, st.2 = (i : Int) ∧ i ≤ ws.length ∧ (st.1 = false → ∀ w ∈ ws.take i, w.length ≤ V)) (fun st => ws.length - st.2.toNat) ⟨0, rfl, Nat.zero_le _, fun _ w hw => by cases hw⟩ fun st ⟨i, e, hi, hst⟩ => ?_
      obtain ⟨a, b⟩ := st
      dsimp only at e hst ⊢
      subst e
      refine Tot.ite (fun g => ?_) fun g => ?_
      · have g : i < ws.length := by have := of_decide_eq_true g; omega
        have hm := List.getElem_mem g
        refine Tot.bind0 (strs_get g) (Tot.bindq (Length_ok (hso _ hm).2.2 (hwe _ hm)) fun r hr => ?_)
        subst hr
        refine Tot.bindq (P := fun j => j = false → a = false ∧ ws[i].length ≤ V) ?_ fun j hj => Tot.ret ?_
        · refine Tot.ite (fun _ => Tot.ret fun h => by cases h) fun g1 => Tot.ite (fun _ => Tot.ret fun h => by cases h) fun g2 => Tot.ret fun _ => ⟨by cases a <;> simp_all, ?_⟩
          have := of_decide_eq_false g2; dsimp only at this; omega
        · rw [iw (n := i + 1) (by omega) (by omega)]
          refine ⟨⟨i + 1, rfl, g, fun h w hw => ?_⟩, by dsimp only; omega⟩
          dsimp only at h
          rw [List.take_succ_eq_append_getElem g] at hw
          rcases List.mem_append.1 hw with e | e
          · exact hst (hj h).1 w e
          · rw [List.mem_singleton.1 e]; exact (hj h).2
      · have g : i = ws.length := by have := of_decide_eq_false g; omega
        subst g
        rw [List.take_length] at hst
        exact Tot.ret hst
    · refine Tot.bindq (P := fun j => j = .inl (strs gs.flatten)) ?_ fun j hj => ?_
      · refine Tot.loop (fun st => ∃ i : Nat, st = (strs (gs.take i).flatten, (i : Int)) ∧ i ≤ gs.length ∧ (gs.take i).flatten.length ≤ 1000 * i) (fun st => gs.length - st.2.toNat) ⟨0, rfl, Nat.zero_le _, Nat.le_refl _⟩ fun st ⟨i, e, hi, hb⟩ => ?_
        subst e
        dsimp only
        refine Tot.ite (fun g => ?_) fun g => ?_
        · have g : i < gs.length := by have := of_decide_eq_true g; omega
          obtain ⟨f1, f2, f3, f4, f5, f6⟩ := hline _ (List.getElem_mem g)
          refine Tot.bind0 (hget i g) (Tot.bindq (Length_ok f6 f4) fun r hr => Tot.bindq (Words_line f1 f3 f2 f4 f6) fun r2 hr2 => ?_)
          subst hr hr2
          dsimp only
          have hfp := List.length_pos_iff.2 f1
          rw [strs_len]
          refine Tot.bindq (P := fun j => j = false) ?_ fun j hj => ?_
          · exact Tot.if_ rfl (Tot.if_ rfl (Tot.if_ (decide_eq_false (by omega)) (Tot.ret (beq_eq_false_iff_ne.2 (by omega)))))
          · subst hj
            refine Tot.if_ rfl (Tot.bindq (P := fun j => j = .inl ()) ?_ fun j hj => ?_)
            · refine Tot.ite (fun g2 => ?_) fun _ => Tot.ret rfl
              rw [Bool.and_eq_true] at g2
              have gi : 0 < i := by have := of_decide_eq_true g2.1; omega
              have hg := gg (hlong (by cases long <;> simp_all)) (i - 1) (by omega)
              rw [iw (x := (i : Int) - 1) (n := i - 1) (by omega) (by omega)]
              have gi1 : i - 1 < gs.length := by omega
              obtain ⟨k1, k2, k3, k4, k5, k6⟩ := hline _ (List.getElem_mem gi1)
              have hA : gs.getD (i - 1) [] = gs[i - 1] := by rw [List.getD_eq_getElem?_getD, List.getElem?_eq_getElem gi1]; rfl
              have hB : gs.getD (i - 1 + 1) [] = gs[i] := by rw [show i - 1 + 1 = i by omega, List.getD_eq_getElem?_getD, List.getElem?_eq_getElem g]; rfl
              rw [hA, hB] at hg
              have hC : gs[i].headD [] = gs[i][0]'hfp := by
                generalize gs[i] = q at *
                cases q with
                | nil => exact absurd rfl f1
                | cons x q => rfl
              rw [hC] at hg
              have hw := f3 _ (List.getElem_mem hfp)
              have hwl : (enc (gs[i][0]'hfp)).length ≤ 4000 := by
                have : (enc (gs[i][0]'hfp)).length ≤ (enc (bl gs[i])).length := by
                  generalize gs[i] = q at *
                  cases q with
                  | nil => exact absurd rfl f1
                  | cons x q =>
                    show (enc x).length ≤ (enc (x ++ _)).length
                    rw [enc_app, List.length_append]; omega
                omega
              refine Tot.bind0 (hget _ gi1) (Tot.bindq (Length_ok k6 k4) fun r hr => Tot.bind0 (strs_get (i := 0) hfp) (Tot.bindq (Length_ok hw.2.2 hwl) fun r2 hr2 => ?_))
              subst hr hr2
              have hwl2 := enc_len_ge (gs[i][0]'hfp)
              refine Tot.bindq (P := fun j => j = false) ?_ fun j hj => ?_
              · refine Tot.if_ rfl (Tot.if_ rfl (Tot.ret ?_))
                dsimp only
                rw [iw (x := ((bl gs[i - 1]).length : Int) + 1) (n := (bl gs[i - 1]).length + 1) (by omega) (by omega), iw (n := (bl gs[i - 1]).length + 1 + (gs[i][0]'hfp).length) (by omega) (by omega)]
                exact decide_eq_false (by omega)
              · subst hj
                exact Tot.if_ rfl (Tot.ret rfl)
            · subst hj
              refine Tot.bind0 (app_ok (by rw [strs_len, strs_len]; omega)) (Tot.ret ?_)
              rw [iw (n := i + 1) (by omega) (by omega)]
              have e2 : (gs.take (i + 1)).flatten = (gs.take i).flatten ++ gs[i] := by rw [List.take_succ_eq_append_getElem g, List.flatten_append]; simp
              refine ⟨⟨i + 1, by rw [e2, strs_app], g, by rw [e2, List.length_append]; omega⟩, by dsimp only; omega⟩
        · have g : i = gs.length := by have := of_decide_eq_false g; omega
          subst g
          exact Tot.ret (by rw [List.take_length])
      · subst hj
        refine Tot.bindq (P := fun j => j = true) ?_ fun j hj => Tot.ret hj
        refine Tot.ite (fun _ => Tot.ret rfl) fun g => ?_
        have g : long = false := by cases long <;> simp_all
        have hk := gk (hlong g)
        rw [hk]
        exact Tot.bindq (Same_tot (by rw [strs_len]; omega)) fun r hr => Tot.ret (by rw [hr]; exact decide_eq_true rfl)
  · rw [if_neg hok] at h1; subst h1
    exact Tot.it rfl (Tot.ret rfl)
theorem TextstrLinesKept_said (s : ByteArray) (w : Int) (_ : s.size ≤ maxLen) (_ : inK .i64 w) (h : (s.size + 1) + 1 ≤ 1048576) : Tot (fun n => law4_TextstrLinesKept n s w) (· = true) := LinesKept_tot (by omega)
end Go.Gv.R
