import Derived.Test.YtkmcegicngjhbaaDoorM5
set_option linter.all false
namespace Go.Gv.R
open Go Go.Gv Go.Gv.D Go.Lib

theorem faults1 {p : List Nat} (hp : ∀ x ∈ p, Scal x) (hl : (enc p).length ≤ 4000) : okS (strOf (enc p)) = true := okS_enc hp hl
theorem up_ok {p : List Nat} (hp : ∀ x ∈ p, Scal x) (hl : (enc p).length ≤ 4000) : Tot (fun n => textstr_ToUpper n (strOf (enc p))) (· = (strOf (enc (p.map fun c => c - upN c)), (0, 0))) :=
  (ToUpper_tot (by rw [size_str]; omega)).mono fun r hr => by rw [if_pos (okS_enc hp hl)] at hr; exact hr p hp rfl
theorem dn_ok {p : List Nat} (hp : ∀ x ∈ p, Scal x) (hl : (enc p).length ≤ 4000) : Tot (fun n => textstr_ToLower n (strOf (enc p))) (· = (strOf (enc (p.map fun c => c + dnN c)), (0, 0))) :=
  (ToLower_tot (by rw [size_str]; omega)).mono fun r hr => by rw [if_pos (okS_enc hp hl)] at hr; exact hr p hp rfl
theorem title_ok {p : List Nat} (hp : ∀ x ∈ p, Scal x) (hl : (enc p).length ≤ 4000) : Tot (fun n => textstr_ToTitle n (strOf (enc p))) (· = (strOf (enc (mapS titleF false p)), (0, 0))) :=
  (ToTitle_tot (by rw [size_str]; omega)).mono fun r hr => by rw [if_pos (okS_enc hp hl)] at hr; exact hr p hp rfl
theorem check_ok {l : List ByteArray} (hl : l.length ≤ 1000) (h : ∀ s ∈ l, okS s = true) : faultL l 0 = (0, 0) := by
  have := faultL_drop l 0 l.length (fun j hj _ => h _ (List.getElem_mem hj)) (Nat.le_refl _)
  rw [List.drop_length] at this
  exact this
theorem tPoints_ok {p : List Nat} (hp : ∀ x ∈ p, Scal x) (hl : (enc p).length ≤ 4000) : Tot (fun n => textstr_Points n (strOf (enc p))) (· = (ints p, (0, 0))) := by
  unfold textstr_Points
  refine Tot.bindq (tcheck_tot (by simp) (by intro s hs; rw [List.mem_singleton.1 hs, size_str]; omega)) fun r hr => ?_
  rw [fault_ok (okS_enc hp hl)] at hr
  subst hr
  refine Tot.if_ rfl ?_
  simp only [size_str]
  refine Tot.bindq (P := fun j => j = ints p) ?_ fun j hj => Tot.ret (by rw [hj])
  refine Tot.loop (fun st => ∃ a b, p = a ++ b ∧ st = (ints a, (enc a).length)) (fun st => (enc p).length + 1 - st.2) ⟨[], p, rfl, rfl⟩ fun st ⟨a, b, e, hst⟩ => ?_
  subst hst
  dsimp only
  cases b with
  | nil =>
    rw [List.append_nil] at e; subst e
    exact Tot.if_ (decide_eq_false (by omega)) (Tot.ret rfl)
  | cons c b =>
    have hc : Scal c := hp c (by rw [e]; simp)
    have hlen : (enc p).length = (enc a).length + (encR c).length + (enc b).length := by rw [e, enc_app, enc_cons, List.length_append, List.length_append]; omega
    have hcp := encR_pos c
    have hal := enc_len_ge a
    refine Tot.it (decide_eq_true (by omega)) ?_
    obtain ⟨hr1, hr2⟩ := rune_at (s := strOf (enc p)) (p := a) (t := b) hc (by rw [bytes_str, e])
    have hcs := scal_i32 hc
    rw [hr1, hr2, i64_small (by omega) (by omega)]
    refine Tot.bind0 (app_ok (by rw [ints_len]; simp; omega)) (Tot.ret ⟨⟨a ++ [c], b, by rw [e]; simp, ?_⟩, by dsimp only; omega⟩)
    rw [ints_app, enc_snoc, List.length_append]; rfl
theorem Length_ok {p : List Nat} (hp : ∀ x ∈ p, Scal x) (hl : (enc p).length ≤ 4000) : Tot (fun n => textstr_Length n (strOf (enc p))) (· = ((p.length : Int), (0, 0))) := by
  unfold textstr_Length
  exact Tot.bindq (tPoints_ok hp hl) fun r hr => Tot.ret (by rw [hr]; dsimp only; rw [ints_len])

theorem up_dnN (c : Nat) : (c + dnN c) - upN (c + dnN c) = c - upN c ∧ (c - upN c) + dnN (c - upN c) = c + dnN c ∧ (c - upN c) - upN (c - upN c) = c - upN c ∧ (c + dnN c) + dnN (c + dnN c) = c + dnN c := by
  rcases kinds c with ⟨d, h0, h1, h2, h3, h4, h5, h6, h7, h8⟩ | ⟨d, h0, h1, h2, h3, h4, _⟩ | ⟨h1, h2⟩
  · rw [h1, h2, h3, h4]
    simp only [Nat.add_zero]
    rw [h1, h2]; omega
  · rw [h1, h2, h3, h4]
    simp only [Nat.sub_zero]
    rw [h1, h2]; omega
  · rw [h1, h2]
    simp only [Nat.sub_zero, Nat.add_zero]
    rw [h1, h2]; omega
theorem cls_letter (c : Nat) : clsN c ≤ 2 ↔ 0 < upN c ∨ 0 < dnN c := by
  constructor
  · intro h
    rcases clsN_cases c with e | e | e | e | e
    · by_cases q : 0 < upN c
      · exact .inl q
      · by_cases q2 : 0 < dnN c
        · exact .inr q2
        · exfalso
          unfold clsN at h
          rw [if_neg q, if_neg q2] at h
          by_cases q3 : 48 ≤ c ∧ c ≤ 57
          · rw [if_pos q3] at h; omega
          · rw [if_neg q3] at h
            by_cases q4 : blankN c = true
            · rw [if_pos q4] at h; omega
            · rw [if_neg q4] at h; omega
    · exact .inl (cls_two e)
    · omega
    · omega
    · omega
  · intro h
    by_cases q : 0 < upN c
    · rw [cls_two' q]; exact Nat.le_refl _
    · rw [cls_one' q (by omega)]; omega
theorem cls_up (c : Nat) : (clsN (c - upN c) ≤ 2) ↔ clsN c ≤ 2 := by
  rw [cls_letter, cls_letter]
  rcases kinds c with ⟨d, h0, h1, h2, h3, h4, h5, h6, h7, h8⟩ | ⟨d, h0, h1, h2, h3, h4, _⟩ | ⟨h1, h2⟩
  · rw [h1, h2, h3, h4]; omega
  · rw [h1, h2]; simp only [Nat.sub_zero]; rw [h1, h2]
  · rw [h1]; simp only [Nat.sub_zero]; rw [h1]
theorem title_up : ∀ (p : List Nat) (st : Bool), mapS titleF st (p.map fun c => c - upN c) = mapS titleF st p
  | [], _ => rfl
  | c :: p, st => by
    have h := up_dnN c
    have h1 : titleF st (c - upN c) = titleF st c := by
      unfold titleF
      rw [decide_eq_decide.2 (cls_up c)]
      cases st with
      | true => rw [if_pos rfl, if_pos rfl, h.2.1]
      | false => rw [if_neg (by simp), if_neg (by simp), h.2.2.1]
    simp only [List.map_cons, mapS, h1, title_up p]
theorem title_dn : ∀ (p : List Nat) (st : Bool), (mapS titleF st p).map (fun c => c + dnN c) = p.map fun c => c + dnN c
  | [], _ => rfl
  | c :: p, st => by
    have h := up_dnN c
    have h1 : (titleF st c).1 + dnN (titleF st c).1 = c + dnN c := by
      unfold titleF
      cases st with
      | true => dsimp only; rw [if_pos rfl, h.2.2.2]
      | false => dsimp only; rw [if_neg (by simp), h.2.1]
    simp only [List.map_cons, mapS, h1, title_dn p]

theorem Cases_tot {s : ByteArray} (hs : s.size ≤ 1048576) : Tot (fun n => law4_TextstrCases n s) (· = true) := by
  unfold law4_TextstrCases
  refine Tot.bindq (P := fun j => j = !okS s) (Tot.bindq letters_tot fun b hb => ?_) fun j hj => ?_
  · subst hb
    exact Tot.if_ rfl (Tot.bindq (TextOk_tot hs) fun r hr => Tot.ret (by rw [hr]; rfl))
  subst hj
  refine Tot.ite (fun _ => Tot.bindq letters_tot fun b hb => Tot.ret hb) fun h => ?_
  have h : okS s = true := by cases hh : okS s <;> rw [hh] at h <;> first | rfl | cases h
  obtain ⟨p, hp, e, hl⟩ := okS_text h
  subst e
  have su : ∀ r ∈ p.map (fun c => c - upN c), Scal r := fun r hr => by obtain ⟨c, hc, e⟩ := List.mem_map.1 hr; rw [← e]; exact up_scal (hp c hc)
  have sd : ∀ r ∈ p.map (fun c => c + dnN c), Scal r := fun r hr => by obtain ⟨c, hc, e⟩ := List.mem_map.1 hr; rw [← e]; exact dn_scal (hp c hc)
  have stt := mapS_scal title_scal false p hp
  have lu : (enc (p.map fun c => c - upN c)).length = (enc p).length := enc_len_map (fun c => up_len) p
  have ld : (enc (p.map fun c => c + dnN c)).length = (enc p).length := enc_len_map (fun c => dn_len) p
  have lt : (enc (mapS titleF false p)).length = (enc p).length := enc_len_mapS title_len false p
  refine Tot.bindq (up_ok hp hl) fun r1 h1 => Tot.bindq (dn_ok hp hl) fun r2 h2 => ?_
  subst h1 h2
  dsimp only
  refine Tot.bindq (up_ok sd (by omega)) fun r3 h3 => Tot.bindq (dn_ok su (by omega)) fun r4 h4 => Tot.bindq (title_ok hp hl) fun r5 h5 => Tot.bindq (title_ok su (by omega)) fun r6 h6 => ?_
  subst h3 h4 h5 h6
  dsimp only
  refine Tot.bindq (dn_ok stt (by omega)) fun r7 h7 => Tot.bindq (Length_ok hp hl) fun r8 h8 => Tot.bindq (Length_ok stt (by omega)) fun r9 h9 => ?_
  subst h7 h8 h9
  dsimp only
  refine Tot.bindq (P := fun j => j = true) ?_ fun j hj => Tot.ret hj
  refine Tot.it rfl (Tot.it rfl (Tot.it rfl (Tot.it rfl (Tot.it rfl (Tot.it rfl (Tot.it rfl (Tot.it rfl (Tot.it rfl (Tot.it ?_ (Tot.it ?_ (Tot.it ?_ (Tot.it ?_ (Tot.it ?_ (Tot.some_bind (Tot.ret ?_)))))))))))))))
  · rw [str_eq]
    refine decide_eq_true (congrArg (fun l => strOf (enc l)) ?_)
    rw [List.map_map]
    exact List.map_congr_left fun c _ => (up_dnN c).1
  · rw [str_eq]
    refine decide_eq_true (congrArg (fun l => strOf (enc l)) ?_)
    rw [List.map_map]
    exact List.map_congr_left fun c _ => (up_dnN c).2.1
  · rw [str_eq, title_up]; exact decide_eq_true rfl
  · rw [str_eq, title_dn]; exact decide_eq_true rfl
  · rw [mapS_len]; exact beq_self_eq_true _
  · rw [size_str, size_str, lu]; exact beq_self_eq_true _
theorem TextstrCases_said (s : ByteArray) (_ : s.size ≤ maxLen) (h : s.size + 1 ≤ 1048576) : Tot (fun n => law4_TextstrCases n s) (· = true) := Cases_tot (by omega)
end Go.Gv.R
