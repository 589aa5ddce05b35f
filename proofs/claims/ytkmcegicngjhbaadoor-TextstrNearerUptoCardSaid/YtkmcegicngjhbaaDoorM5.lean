import Derived.Test.YtkmcegicngjhbaaDoorM2
import Derived.Test.YtkmcegicngjhbaaDoorM1
set_option linter.all false
namespace Go.Gv.R
open Go Go.Gv Go.Gv.D Go.Lib

theorem Turned_tot {p : List Nat} {k : Nat} (hp : ∀ x ∈ p, Scal x) (hl : p.length ≤ 1048576) : Tot (fun n => ref4_Turned n (ints p) (k : Int)) (fun r => r = ints (p.map fun c => if clsN c = k then othN c else c)) := by
  unfold ref4_Turned
  refine Tot.bindq (P := fun r => r = ints (p.map fun c => if clsN c = k then othN c else c)) ?_ fun r hr => Tot.ret hr
  refine Tot.loop (fun st => ∃ i : Nat, st = (ints ((p.take i).map fun c => if clsN c = k then othN c else c), (i : Int)) ∧ i ≤ p.length) (fun st => p.length - st.2.toNat) ⟨0, rfl, by omega⟩ fun st ⟨i, e, hi⟩ => ?_
  subst e
  dsimp only
  rw [ints_len]
  refine Tot.ite (fun h => ?_) fun h => ?_
  · have h : i < p.length := by have := of_decide_eq_true h; omega
    have hc := scal_i32 (hp _ (List.getElem_mem h))
    refine Tot.bind0 (ints_get h) (Tot.bindq (Class_tot hc) fun r hr => ?_)
    subst hr
    dsimp only
    have ht : p.take (i + 1) = p.take i ++ [p[i]] := by rw [List.take_succ_eq_append_getElem h]
    have hlen : (ints ((p.take i).map fun c => if clsN c = k then othN c else c)).length = i := by rw [ints_len, List.length_map, List.length_take]; omega
    refine Tot.bindq (P := fun j => j = ints ((p.take (i + 1)).map fun c => if clsN c = k then othN c else c)) ?_ fun j hj => Tot.ret ⟨⟨i + 1, ?_, h⟩, ?_⟩
    · have hb : ((clsN p[i] : Int) == (k : Int)) = decide (clsN p[i] = k) := by
        by_cases h : clsN p[i] = k
        · rw [h, beq_self_eq_true, decide_eq_true rfl]
        · rw [decide_eq_false h, beq_eq_false_iff_ne.2 (by omega)]
      rw [hb, ht, List.map_append, ints_app]
      refine Tot.ite (fun q => ?_) fun q => ?_
      · refine Tot.bind0 (app_ok (by rw [hlen]; simp; omega)) (Tot.ret ?_)
        rw [List.map_singleton, if_pos (of_decide_eq_true q)]; rfl
      · refine Tot.bind0 (ints_get h) (Tot.bind0 (app_ok (by rw [hlen]; simp; omega)) (Tot.ret ?_))
        rw [List.map_singleton, if_neg (of_decide_eq_false q)]; rfl
    · rw [hj, iw (n := i + 1) (by omega) (by omega)]
    · dsimp only; rw [iw (n := i + 1) (by omega) (by omega)]; omega
  · have h : i = p.length := by have := of_decide_eq_false h; omega
    subst h
    exact Tot.ret (by rw [List.take_length])

theorem up_dn (c : Nat) : upN c = 0 ∨ dnN c = 0 := by
  rcases kinds c with ⟨d, h⟩ | ⟨d, h⟩ | h
  · exact .inr h.2.2.1
  · exact .inl h.2.2.1
  · exact .inl h.1
theorem cls_two {c : Nat} (h : clsN c = 2) : 0 < upN c := by
  by_cases q : 0 < upN c
  · exact q
  · unfold clsN at h
    rw [if_neg q] at h
    by_cases q2 : 0 < dnN c
    · rw [if_pos q2] at h; omega
    · rw [if_neg q2] at h
      by_cases q3 : 48 ≤ c ∧ c ≤ 57
      · rw [if_pos q3] at h; omega
      · rw [if_neg q3] at h
        by_cases q4 : blankN c = true
        · rw [if_pos q4] at h; omega
        · rw [if_neg q4] at h; omega
theorem cls_two' {c : Nat} (h : 0 < upN c) : clsN c = 2 := by unfold clsN; rw [if_pos h]
theorem cls_one' {c : Nat} (h : ¬ 0 < upN c) (h2 : 0 < dnN c) : clsN c = 1 := by unfold clsN; rw [if_neg h, if_pos h2]
theorem cls_one {c : Nat} (h : clsN c = 1) : ¬ 0 < upN c := fun q => by rw [cls_two' q] at h; omega
theorem end_title (p : List Nat) (c : Nat) : endS titleF false (p ++ [c]) = decide (clsN c ≤ 2) := by rw [endS_app]; rfl
theorem Titled_tot {p : List Nat} (hp : ∀ x ∈ p, Scal x) (hl : p.length ≤ 1048576) : Tot (fun n => ref4_Titled n (ints p)) (fun r => r = ints (mapS titleF false p)) := by
  unfold ref4_Titled
  refine Tot.bindq (P := fun r => r = ints (mapS titleF false p)) ?_ fun r hr => Tot.ret hr
  refine Tot.loop (fun st => ∃ i : Nat, st = (ints (mapS titleF false (p.take i)), (i : Int)) ∧ i ≤ p.length) (fun st => p.length - st.2.toNat) ⟨0, rfl, by omega⟩ fun st ⟨i, e, hi⟩ => ?_
  subst e
  dsimp only
  rw [ints_len]
  refine Tot.ite (fun h => ?_) fun h => ?_
  · have h : i < p.length := by have := of_decide_eq_true h; omega
    have hc := scal_i32 (hp _ (List.getElem_mem h))
    refine Tot.bind0 (ints_get h) (Tot.bindq (Class_tot hc) fun r hr => ?_)
    subst hr
    dsimp only
    have ht : p.take (i + 1) = p.take i ++ [p[i]] := by rw [List.take_succ_eq_append_getElem h]
    have hlen : (ints (mapS titleF false (p.take i))).length = i := by rw [ints_len, mapS_len, List.length_take]; omega
    have hst : Tot (fun n => if decide ((i : Int) > 0) = true then Option.bind (idx (ints p) (IntKind.i64.wrap ((i : Int) - 1))) fun x22 => Option.bind (ref4_Class n x22) fun r25 => some r25.1 else some 16) (fun j => ∃ b : Nat, j = (b : Int) ∧ endS titleF false (p.take i) = decide (b ≤ 2)) := by
      cases i with
      | zero => exact Tot.if_ rfl (Tot.ret ⟨16, rfl, rfl⟩)
      | succ i =>
        have hi' : i < p.length := by omega
        have hc' := scal_i32 (hp _ (List.getElem_mem hi'))
        refine Tot.it (decide_eq_true (by omega)) ?_
        rw [show IntKind.i64.wrap (((i + 1 : Nat) : Int) - 1) = (i : Int) by rw [i64_small (by omega) (by omega)]; omega]
        refine Tot.bind0 (ints_get hi') (Tot.bindq (Class_tot hc') fun r hr => Tot.ret ⟨clsN p[i], by rw [hr], ?_⟩)
        rw [List.take_succ_eq_append_getElem hi', end_title]
    refine Tot.bindq hst fun j hj => ?_
    obtain ⟨b, hb, hend⟩ := hj
    subst hb
    refine Tot.bindq (P := fun j => j = ints (mapS titleF false (p.take (i + 1)))) ?_ fun j hj => Tot.ret ⟨⟨i + 1, ?_, h⟩, ?_⟩
    · rw [ht, mapS_app, ints_app, hend]
      have happ : ∀ v : Int, app (ints (mapS titleF false (p.take i))) [v] = some (ints (mapS titleF false (p.take i)) ++ [v]) := fun v => app_ok (by rw [hlen]; simp; omega)
      -- the class decides
      have hcond : (if ((clsN p[i] : Int) == 2) = true then (decide ((b : Int) > 2) || (((clsN p[i] : Int) == 1) && decide ((b : Int) ≤ 2))) else (((clsN p[i] : Int) == 1) && decide ((b : Int) ≤ 2))) = decide ((clsN p[i] = 2 ∧ 2 < b) ∨ (clsN p[i] = 1 ∧ b ≤ 2)) := by
        have f1 : decide ((b : Int) > 2) = decide (2 < b) := decide_eq_decide.2 ⟨fun _ => by omega, fun _ => by omega⟩
        have f2 : decide ((b : Int) ≤ 2) = decide (b ≤ 2) := decide_eq_decide.2 ⟨fun _ => by omega, fun _ => by omega⟩
        rw [f1, f2]
        rcases clsN_cases p[i] with e | e | e | e | e <;> rw [e] <;> by_cases hb : b ≤ 2 <;> (first | (have h1 : ¬ 2 < b := by omega) | (have h1 : 2 < b := by omega)) <;> simp [hb, h1]
      have hval : ((clsN p[i] = 2 ∧ 2 < b) ∨ (clsN p[i] = 1 ∧ b ≤ 2)) → (titleF (decide (b ≤ 2)) p[i]).1 = othN p[i] := by
        intro h
        have hk := up_dn p[i]
        have hk2 := upN_le p[i]
        unfold titleF othN
        dsimp only
        rcases h with ⟨h1, h2⟩ | ⟨h1, h2⟩
        · rw [decide_eq_false (by omega), if_neg (by simp)]
          have := cls_two h1
          omega
        · rw [decide_eq_true h2, if_pos rfl]
          have := cls_one h1
          omega
      have hval2 : ¬ ((clsN p[i] = 2 ∧ 2 < b) ∨ (clsN p[i] = 1 ∧ b ≤ 2)) → (titleF (decide (b ≤ 2)) p[i]).1 = p[i] := by
        intro h
        have hk := up_dn p[i]
        have hk2 := upN_le p[i]
        unfold titleF
        dsimp only
        by_cases h2 : b ≤ 2
        · rw [decide_eq_true h2, if_pos rfl]
          have : dnN p[i] = 0 := by
            by_cases q : 0 < upN p[i]
            · omega
            · by_cases q2 : 0 < dnN p[i]
              · exact absurd (.inr ⟨cls_one' q q2, h2⟩) h
              · omega
          omega
        · rw [decide_eq_false h2, if_neg (by simp)]
          have : upN p[i] = 0 := by
            by_cases q2 : 0 < upN p[i]
            · exact absurd (.inl ⟨cls_two' q2, by omega⟩) h
            · omega
          omega
      rw [hcond]
      refine Tot.ite (fun q => ?_) fun q => ?_
      · refine Tot.bind0 (happ _) (Tot.ret ?_)
        show _ = _ ++ ints [(titleF (decide (b ≤ 2)) p[i]).1]
        rw [hval (of_decide_eq_true q)]; rfl
      · refine Tot.bind0 (ints_get h) (Tot.bind0 (happ _) (Tot.ret ?_))
        show _ = _ ++ ints [(titleF (decide (b ≤ 2)) p[i]).1]
        rw [hval2 (of_decide_eq_false q)]; rfl
    · rw [hj, iw (n := i + 1) (by omega) (by omega)]
    · dsimp only; rw [iw (n := i + 1) (by omega) (by omega)]; omega
  · have h : i = p.length := by have := of_decide_eq_false h; omega
    subst h
    exact Tot.ret (by rw [List.take_length])

theorem bwAnd_comm (k : IntKind) (a b : Int) : bwAnd k a b = bwAnd k b a := by unfold bwAnd; rw [BitVec.and_comm]
theorem Is_tot {s : ByteArray} {k : Int} (hs : s.size ≤ 1048576) : Tot (fun n => textstr_Is n s k) (fun r => if okS s = true then (if k < 1 ∨ 31 < k then r = (false, (4, -2)) else ∀ p, (∀ x ∈ p, Scal x) → s = strOf (enc p) → r = (decide (p ≠ []) && p.all fun c => (bwAnd .i64 k (clsN c : Int)) != 0, (0, 0))) else r = (false, (6, -1))) := by
  unfold textstr_Is
  refine Tot.bindq (tcheck_tot (by simp) (by simpa using hs)) fun r hr => ?_
  subst hr
  by_cases h : okS s = true
  · rw [fault_ok h]
    refine Tot.mono (Q := fun r => if k < 1 ∨ 31 < k then r = (false, (4, -2)) else ∀ p, (∀ x ∈ p, Scal x) → s = strOf (enc p) → r = (decide (p ≠ []) && p.all fun c => (bwAnd .i64 k (clsN c : Int)) != 0, (0, 0))) ?_ (fun r hr => by rw [if_pos h]; exact hr)
    refine Tot.if_ rfl (Tot.ite (fun q => ?_) fun q => ?_)
    · rw [Bool.or_eq_true] at q
      have q : k < 1 ∨ 31 < k := q.imp of_decide_eq_true of_decide_eq_true
      exact Tot.bindq (tat_tot _ _) fun r hr => Tot.ret (by rw [if_pos q, hr])
    · have q : ¬ (k < 1 ∨ 31 < k) := fun hh => by
        rcases hh with hh | hh
        · rw [decide_eq_true hh] at q; cases q
        · rw [decide_eq_true (show k > 31 from hh), Bool.or_true] at q; cases q
      obtain ⟨p, hp, e, hl⟩ := okS_text h
      subst e
      simp only [size_str]
      have hgoal : ∀ r : Bool × (Int × Int), r = (decide (p ≠ []) && p.all fun c => (bwAnd .i64 k (clsN c : Int)) != 0, (0, 0)) → ∀ q, (∀ x ∈ q, Scal x) → strOf (enc p) = strOf (enc q) → r = (decide (q ≠ []) && q.all fun c => (bwAnd .i64 k (clsN c : Int)) != 0, (0, 0)) :=
        fun r hr q hq e2 => by rw [← str_enc_inj hp hq e2]; exact hr
      refine Tot.mono (Q := fun r => r = (decide (p ≠ []) && p.all fun c => (bwAnd .i64 k (clsN c : Int)) != 0, (0, 0))) ?_ (fun r hr => by rw [if_neg q]; exact hgoal r hr)
      refine Tot.bindq (P := fun r => (r = .inr (false, (0, 0)) ∧ (p.all fun c => (bwAnd .i64 k (clsN c : Int)) != 0) = false) ∨ (r = .inl (0, 0) ∧ (p.all fun c => (bwAnd .i64 k (clsN c : Int)) != 0) = true)) ?_ fun r hr => ?_
      · refine Tot.loop (fun st => ∃ a b, p = a ++ b ∧ st = ((0, 0), (enc a).length) ∧ (a.all fun c => (bwAnd .i64 k (clsN c : Int)) != 0) = true) (fun st => (enc p).length + 1 - st.2) ⟨[], p, rfl, rfl, rfl⟩ fun st ⟨a, b, e, hst, hall⟩ => ?_
        subst hst
        dsimp only
        cases b with
        | nil =>
          rw [List.append_nil] at e; subst e
          exact Tot.if_ (decide_eq_false (by omega)) (Tot.ret (.inr ⟨rfl, hall⟩))
        | cons c b =>
          have hc : Scal c := hp c (by rw [e]; simp)
          have hlen : (enc p).length = (enc a).length + (encR c).length + (enc b).length := by rw [e, enc_app, enc_cons, List.length_append, List.length_append]; omega
          have hcp := encR_pos c
          refine Tot.it (decide_eq_true (by omega)) ?_
          obtain ⟨hr1, hr2⟩ := rune_at (s := strOf (enc p)) (p := a) (t := b) hc (by rw [bytes_str, e])
          rw [hr1, hr2]
          refine Tot.bindq (class_tot (scal_i32 hc)) fun r hr => ?_
          subst hr
          rw [bwAnd_comm]
          refine Tot.ite (fun q => Tot.ret (.inl ⟨rfl, ?_⟩)) fun q => Tot.ret ⟨⟨a ++ [c], b, by rw [e]; simp, by rw [enc_snoc, List.length_append], ?_⟩, by dsimp only; omega⟩
          · rw [e, List.all_append, List.all_cons, bne, q]; simp
          · rw [List.all_append, hall, List.all_cons, bne, q]; rfl
      · rcases hr with ⟨e, h⟩ | ⟨e, h⟩
        · subst e
          exact Tot.contr (by rw [h, Bool.and_false])
        · subst e
          refine Tot.contl (Tot.ret ?_)
          rw [h, Bool.and_true, toList_bytes, toList_bytes, bytes_str, bytes_str]
          cases p with
          | nil => rfl
          | cons c p =>
            have := enc_ne (r := c) (l := p)
            rw [decide_eq_true (by simp), beq_eq_false_iff_ne.2 this]; rfl
  · have h : okS s = false := by cases hh : okS s <;> simp_all
    rw [fault_bad h]
    refine Tot.it rfl (Tot.ret ?_)
    rw [if_neg (by rw [h]; simp)]

theorem Letters_tot {s : ByteArray} {k : Int} (hs : s.size ≤ 1048576) : Tot (fun n => law4_TextstrLetters n s k) (· = true) := by
  unfold law4_TextstrLetters
  refine Tot.bindq (ToUpper_tot hs) fun r1 h1 => Tot.bindq (ToLower_tot hs) fun r2 h2 => Tot.bindq (ToTitle_tot hs) fun r3 h3 => Tot.bindq (Is_tot (k := k) hs) fun r4 h4 => Tot.bindq (faults_tot (l := [s]) (by simp) (by simpa using hs)) fun w hw => Tot.bindq (points_any hs) fun pr hpr => ?_
  obtain ⟨p, hp, hpe, hpl, hpok⟩ := ptsOf_len hpr
  rw [hpe]
  have hpl : p.length ≤ 1048576 := by omega
  -- what a change gives, held against the reference
  have fit : ∀ {r : ByteArray × (Int × Int)} {q : List Nat}, (enc q).length = (enc p).length → (if okS s = true then ∀ p, (∀ x ∈ p, Scal x) → s = strOf (enc p) → True else True) → (okS s = true → r = (strOf (enc q), (0, 0))) → (okS s = false → r = (strOf [], (6, -1))) → Tot (fun n => law4_text n r.1 (r.2.1, r.2.2) (strOf (enc q)) (w.1, w.2)) (· = true) := by
    intro r q hq _ ha hb
    refine text_tot ?_
    by_cases h : okS s = true
    · rw [ha h, hw, fault_ok h]
      have e := hpok h
      have h4 : (enc q).length ≤ 4000 := by
        rw [hq]
        have := (okS_text h)
        unfold okS at h
        rw [Bool.and_eq_true] at h
        have h2 := of_decide_eq_true h.2
        rw [e, size_str] at h2; exact h2
      rw [if_neg (by rw [size_str]; omega), if_neg (by simp)]
    · have h : okS s = false := by cases hh : okS s <;> simp_all
      rw [hb h, hw, fault_bad h]; rfl
  have m2 : (p.map fun c => if clsN c = 2 then othN c else c) = p.map fun c => c - upN c := List.map_congr_left fun c _ => by
    by_cases q : 0 < upN c
    · rw [if_pos (cls_two' q)]
      have := up_dn c
      unfold othN; omega
    · rw [if_neg (fun h => q (cls_two h))]; omega
  have m1 : (p.map fun c => if clsN c = 1 then othN c else c) = p.map fun c => c + dnN c := List.map_congr_left fun c _ => by
    by_cases q : clsN c = 1
    · rw [if_pos q]
      have := cls_one q
      unfold othN; omega
    · rw [if_neg q]
      by_cases q2 : 0 < dnN c
      · have := up_dn c
        exact absurd (cls_one' (by omega) q2) q
      · omega
  have su : ∀ r ∈ p.map (fun c => c - upN c), Scal r := fun r hr => by obtain ⟨c, hc, e⟩ := List.mem_map.1 hr; rw [← e]; exact up_scal (hp c hc)
  have sd : ∀ r ∈ p.map (fun c => c + dnN c), Scal r := fun r hr => by obtain ⟨c, hc, e⟩ := List.mem_map.1 hr; rw [← e]; exact dn_scal (hp c hc)
  have stt := mapS_scal title_scal false p hp
  refine Tot.bindq (P := fun r => r = false) ?_ fun r hr => ?_
  · refine Tot.bindq letters_tot fun b hb => ?_
    subst hb
    refine Tot.if_ rfl (Tot.bindq (Turned_tot (k := 2) hp hpl) fun t ht => ?_)
    rw [ht, m2]
    refine Tot.bindq (String_tot su (by rw [List.length_map]; omega)) fun x hx => ?_
    subst hx
    refine Tot.bindq (fit (enc_len_map (fun c => up_len) p) (by simp) (fun h => by rw [if_pos h] at h1; exact h1 p hp (hpok h)) (fun h => by rw [if_neg (by rw [h]; simp)] at h1; exact h1)) fun b hb => ?_
    subst hb
    refine Tot.if_ rfl (Tot.bindq (Turned_tot (k := 1) hp hpl) fun t ht => ?_)
    rw [ht, m1]
    refine Tot.bindq (String_tot sd (by rw [List.length_map]; omega)) fun x hx => ?_
    subst hx
    refine Tot.bindq (fit (enc_len_map (fun c => dn_len) p) (by simp) (fun h => by rw [if_pos h] at h2; exact h2 p hp (hpok h)) (fun h => by rw [if_neg (by rw [h]; simp)] at h2; exact h2)) fun b hb => ?_
    subst hb
    refine Tot.if_ rfl (Tot.bindq (Titled_tot hp hpl) fun t ht => ?_)
    subst ht
    refine Tot.bindq (String_tot stt (by rw [mapS_len]; omega)) fun x hx => ?_
    subst hx
    refine Tot.bindq (fit (enc_len_mapS title_len false p) (by simp) (fun h => by rw [if_pos h] at h3; exact h3 p hp (hpok h)) (fun h => by rw [if_neg (by rw [h]; simp)] at h3; exact h3)) fun b hb => ?_
    subst hb
    exact Tot.ret rfl
  subst hr
  refine Tot.if_ rfl ?_
  -- the classes
  have hall : Tot (fun fuel => loopN (fun (s323 : (Bool × Int)) => (if (decide (s323.2 < ((List.length (ints p) : Nat) : Int))) then (Option.bind (idx (ints p) s323.2) fun x331 => (Option.bind (ref4_Class fuel x331) fun r333 => (some (.inl ((s323.1 && ((bwAnd .i64 k r333.1) != 0)), (IntKind.i64.wrap (s323.2 + 1))))))) else (some (.inr (s323.1))))) fuel (decide (((List.length (ints p) : Nat) : Int) > 0), 0)) (fun r => r = (decide (p ≠ []) && p.all fun c => (bwAnd .i64 k (clsN c : Int)) != 0)) := by
    rw [ints_len]
    refine Tot.loop (fun st => ∃ i : Nat, st = ((decide (p ≠ []) && (p.take i).all fun c => (bwAnd .i64 k (clsN c : Int)) != 0), (i : Int)) ∧ i ≤ p.length) (fun st => p.length - st.2.toNat) ⟨0, ?_, by omega⟩ fun st ⟨i, e, hi⟩ => ?_
    · rw [List.take_zero, List.all_nil, Bool.and_true]
      have : decide (((p.length : Nat) : Int) > 0) = decide (p ≠ []) := decide_eq_decide.2 ⟨fun h e => by rw [e] at h; simp at h, fun h => by have := List.length_pos_iff.2 h; omega⟩
      rw [this]; rfl
    subst e
    dsimp only
    refine Tot.ite (fun h => ?_) fun h => ?_
    · have h : i < p.length := by have := of_decide_eq_true h; omega
      have hc := scal_i32 (hp _ (List.getElem_mem h))
      refine Tot.bind0 (ints_get h) (Tot.bindq (Class_tot hc) fun r hr => Tot.ret ?_)
      subst hr
      refine ⟨⟨i + 1, ?_, h⟩, ?_⟩
      · rw [iw (n := i + 1) (by omega) (by omega), List.take_succ_eq_append_getElem h, List.all_append, List.all_cons, List.all_nil, Bool.and_true, Bool.and_assoc]
      · dsimp only; rw [iw (n := i + 1) (by omega) (by omega)]; omega
    · have h : i = p.length := by have := of_decide_eq_false h; omega
      subst h
      exact Tot.ret (by rw [List.take_length])
  by_cases h : okS s = true
  · rw [hw, fault_ok h]
    rw [if_pos h] at h4
    by_cases q : k < 1 ∨ 31 < k
    · rw [if_pos q] at h4
      refine Tot.bindq (P := fun j => j = true) (Tot.it rfl ?_) fun j hj => ?_
      · refine Tot.ite (fun _ => Tot.ret rfl) fun q2 => Tot.ret (decide_eq_true ?_)
        have := of_decide_eq_false q2; omega
      subst hj
      refine Tot.bindq (P := fun j => j = (4, -2)) (Tot.it rfl (Tot.bindq (rat_tot _ _) fun r hr => Tot.ret (by rw [hr]))) fun j hj => ?_
      subst hj
      refine Tot.some_bind (Tot.bindq hall fun b hb => Tot.bindq (P := fun j => j = true) ?_ fun j hj => Tot.ret hj)
      rw [h4]
      exact Tot.it rfl (Tot.if_ rfl (Tot.ret rfl))
    · rw [if_neg q] at h4
      have h4 := h4 p hp (hpok h)
      refine Tot.bindq (P := fun j => j = false) (Tot.it rfl (Tot.if_ (decide_eq_false (fun hh => q (.inl hh))) (Tot.ret (decide_eq_false (fun hh => q (.inr hh)))))) fun j hj => ?_
      subst hj
      refine Tot.bindq (P := fun j => j = (0, 0)) (Tot.if_ rfl (Tot.ret rfl)) fun j hj => ?_
      subst hj
      refine Tot.some_bind (Tot.bindq hall fun b hb => Tot.bindq (P := fun j => j = true) ?_ fun j hj => Tot.ret hj)
      rw [h4, hb]
      exact Tot.it rfl (Tot.it rfl (Tot.ret (by simp)))
  · have h : okS s = false := by cases hh : okS s <;> simp_all
    rw [hw, fault_bad h]
    rw [if_neg (by rw [h]; simp)] at h4
    refine Tot.bindq (P := fun j => j = false) (Tot.if_ rfl (Tot.ret rfl)) fun j hj => ?_
    subst hj
    refine Tot.bindq (P := fun j => j = (6, -1)) (Tot.if_ rfl (Tot.ret rfl)) fun j hj => ?_
    subst hj
    refine Tot.some_bind (Tot.bindq hall fun b hb => Tot.bindq (P := fun j => j = true) ?_ fun j hj => Tot.ret hj)
    rw [h4]
    exact Tot.it rfl (Tot.if_ rfl (Tot.ret rfl))
theorem TextstrLetters_said (s : ByteArray) (k : Int) (_ : s.size ≤ maxLen) (_ : inK .i64 k) (h : (s.size + 1) + 1 ≤ 1048576) : Tot (fun n => law4_TextstrLetters n s k) (· = true) := Letters_tot (by omega)
end Go.Gv.R
namespace Go.Gv.R
open Go Go.Gv Go.Gv.D Go.Lib

theorem faults1 {p : List Nat} (hp : ∀ x ∈ p, Scal x) (hl : (enc p).length ≤ 4000) : okS (strOf (enc p)) = true := okS_enc hp hl
theorem up_ok {p : List Nat} (hp : ∀ x ∈ p, Scal x) (hl : (enc p).length ≤ 4000) : Tot (fun n => textstr_ToUpper n (strOf (enc p))) (· = (strOf (enc (p.map fun c => c - upN c)), (0, 0))) :=
  (ToUpper_tot (by rw [size_str]; omega)).mono fun r hr => by rw [if_pos (okS_enc hp hl)] at hr; exact hr p hp rfl
theorem dn_ok {p : List Nat} (hp : ∀ x ∈ p, Scal x) (hl : (enc p).length ≤ 4000) : Tot (fun n => textstr_ToLower n (strOf (enc p))) (· = (strOf (enc (p.map fun c => c + dnN c)), (0, 0))) :=
  (ToLower_tot (by rw [size_str]; omega)).mono fun r hr => by rw [if_pos (okS_enc hp hl)] at hr; exact hr p hp rfl
theorem title_ok {p : List Nat} (hp : ∀ x ∈ p, Scal x) (hl : (enc p).length ≤ 4000) : Tot (fun n => textstr_ToTitle n (strOf (enc p))) (· = (strOf (enc (mapS titleF false p)), (0, 0))) :=
  (ToTitle_tot (by rw [size_str]; omega)).mono fun r hr => by rw [if_pos (okS_enc hp hl)] at hr; exact hr p hp rfl
theorem check_ok {l : List ByteArray} (hl : l.length ≤ 1000) (h : ∀ s ∈ l, okS s = true) : faultL l 0 = (0, 0) := by
  have := faultL_drop l 0 l.length (fun j hj _ => h _ (List.getElem_mem hj)) (Nat.le_refl _)
  rw [List.drop_length] at this
  exact this
theorem tPoints_ok {p : List Nat} (hp : ∀ x ∈ p, Scal x) (hl : (enc p).length ≤ 4000) : Tot (fun n => textstr_Points n (strOf (enc p))) (· = (ints p, (0, 0))) := by
  unfold textstr_Points
  refine Tot.bindq (tcheck_tot (by simp) (by intro s hs; rw [List.mem_singleton.1 hs, size_str]; omega)) fun r hr => ?_
  rw [fault_ok (okS_enc hp hl)] at hr
  subst hr
  refine Tot.if_ rfl ?_
  simp only [size_str]
  refine Tot.bindq (P := fun j => j = ints p) ?_ fun j hj => Tot.ret (by rw [hj])
  refine Tot.loop (fun st => ∃ a b, p = a ++ b ∧ st = (ints a, (enc a).length)) (fun st => (enc p).length + 1 - st.2) ⟨[], p, rfl, rfl⟩ fun st ⟨a, b, e, hst⟩ => ?_
  subst hst
  dsimp only
  cases b with
  | nil =>
    rw [List.append_nil] at e; subst e
    exact Tot.if_ (decide_eq_false (by omega)) (Tot.ret rfl)
  | cons c b =>
    have hc : Scal c := hp c (by rw [e]; simp)
    have hlen : (enc p).length = (enc a).length + (encR c).length + (enc b).length := by rw [e, enc_app, enc_cons, List.length_append, List.length_append]; omega
    have hcp := encR_pos c
    have hal := enc_len_ge a
    refine Tot.it (decide_eq_true (by omega)) ?_
    obtain ⟨hr1, hr2⟩ := rune_at (s := strOf (enc p)) (p := a) (t := b) hc (by rw [bytes_str, e])
    have hcs := scal_i32 hc
    rw [hr1, hr2, i64_small (by omega) (by omega)]
    refine Tot.bind0 (app_ok (by rw [ints_len]; simp; omega)) (Tot.ret ⟨⟨a ++ [c], b, by rw [e]; simp, ?_⟩, by dsimp only; omega⟩)
    rw [ints_app, enc_snoc, List.length_append]; rfl
theorem Length_ok {p : List Nat} (hp : ∀ x ∈ p, Scal x) (hl : (enc p).length ≤ 4000) : Tot (fun n => textstr_Length n (strOf (enc p))) (· = ((p.length : Int), (0, 0))) := by
  unfold textstr_Length
  exact Tot.bindq (tPoints_ok hp hl) fun r hr => Tot.ret (by rw [hr]; dsimp only; rw [ints_len])

theorem up_dnN (c : Nat) : (c + dnN c) - upN (c + dnN c) = c - upN c ∧ (c - upN c) + dnN (c - upN c) = c + dnN c ∧ (c - upN c) - upN (c - upN c) = c - upN c ∧ (c + dnN c) + dnN (c + dnN c) = c + dnN c := by
  rcases kinds c with ⟨d, h0, h1, h2, h3, h4, h5, h6, h7, h8⟩ | ⟨d, h0, h1, h2, h3, h4, _⟩ | ⟨h1, h2⟩
  · rw [h1, h2, h3, h4]
    simp only [Nat.add_zero]
    rw [h1, h2]; omega
  · rw [h1, h2, h3, h4]
    simp only [Nat.sub_zero]
    rw [h1, h2]; omega
  · rw [h1, h2]
    simp only [Nat.sub_zero, Nat.add_zero]
    rw [h1, h2]; omega
theorem cls_letter (c : Nat) : clsN c ≤ 2 ↔ 0 < upN c ∨ 0 < dnN c := by
  constructor
  · intro h
    rcases clsN_cases c with e | e | e | e | e
    · by_cases q : 0 < upN c
      · exact .inl q
      · by_cases q2 : 0 < dnN c
        · exact .inr q2
        · exfalso
          unfold clsN at h
          rw [if_neg q, if_neg q2] at h
          by_cases q3 : 48 ≤ c ∧ c ≤ 57
          · rw [if_pos q3] at h; omega
          · rw [if_neg q3] at h
            by_cases q4 : blankN c = true
            · rw [if_pos q4] at h; omega
            · rw [if_neg q4] at h; omega
    · exact .inl (cls_two e)
    · omega
    · omega
    · omega
  · intro h
    by_cases q : 0 < upN c
    · rw [cls_two' q]; exact Nat.le_refl _
    · rw [cls_one' q (by omega)]; omega
theorem cls_up (c : Nat) : (clsN (c - upN c) ≤ 2) ↔ clsN c ≤ 2 := by
  rw [cls_letter, cls_letter]
  rcases kinds c with ⟨d, h0, h1, h2, h3, h4, h5, h6, h7, h8⟩ | ⟨d, h0, h1, h2, h3, h4, _⟩ | ⟨h1, h2⟩
  · rw [h1, h2, h3, h4]; omega
  · rw [h1, h2]; simp only [Nat.sub_zero]; rw [h1, h2]
  · rw [h1]; simp only [Nat.sub_zero]; rw [h1]
theorem title_up : ∀ (p : List Nat) (st : Bool), mapS titleF st (p.map fun c => c - upN c) = mapS titleF st p
  | [], _ => rfl
  | c :: p, st => by
    have h := up_dnN c
    have h1 : titleF st (c - upN c) = titleF st c := by
      unfold titleF
      rw [decide_eq_decide.2 (cls_up c)]
      cases st with
      | true => rw [if_pos rfl, if_pos rfl, h.2.1]
      | false => rw [if_neg (by simp), if_neg (by simp), h.2.2.1]
    simp only [List.map_cons, mapS, h1, title_up p]
theorem title_dn : ∀ (p : List Nat) (st : Bool), (mapS titleF st p).map (fun c => c + dnN c) = p.map fun c => c + dnN c
  | [], _ => rfl
  | c :: p, st => by
    have h := up_dnN c
    have h1 : (titleF st c).1 + dnN (titleF st c).1 = c + dnN c := by
      unfold titleF
      cases st with
      | true => dsimp only; rw [if_pos rfl, h.2.2.2]
      | false => dsimp only; rw [if_neg (by simp), h.2.1]
    simp only [List.map_cons, mapS, h1, title_dn p]

theorem Cases_tot {s : ByteArray} (hs : s.size ≤ 1048576) : Tot (fun n => law4_TextstrCases n s) (· = true) := by
  unfold law4_TextstrCases
  refine Tot.bindq (P := fun j => j = !okS s) (Tot.bindq letters_tot fun b hb => ?_) fun j hj => ?_
  · subst hb
    exact Tot.if_ rfl (Tot.bindq (TextOk_tot hs) fun r hr => Tot.ret (by rw [hr]; rfl))
  subst hj
  refine Tot.ite (fun _ => Tot.bindq letters_tot fun b hb => Tot.ret hb) fun h => ?_
  have h : okS s = true := by cases hh : okS s <;> rw [hh] at h <;> first | rfl | cases h
  obtain ⟨p, hp, e, hl⟩ := okS_text h
  subst e
  have su : ∀ r ∈ p.map (fun c => c - upN c), Scal r := fun r hr => by obtain ⟨c, hc, e⟩ := List.mem_map.1 hr; rw [← e]; exact up_scal (hp c hc)
  have sd : ∀ r ∈ p.map (fun c => c + dnN c), Scal r := fun r hr => by obtain ⟨c, hc, e⟩ := List.mem_map.1 hr; rw [← e]; exact dn_scal (hp c hc)
  have stt := mapS_scal title_scal false p hp
  have lu : (enc (p.map fun c => c - upN c)).length = (enc p).length := enc_len_map (fun c => up_len) p
  have ld : (enc (p.map fun c => c + dnN c)).length = (enc p).length := enc_len_map (fun c => dn_len) p
  have lt : (enc (mapS titleF false p)).length = (enc p).length := enc_len_mapS title_len false p
  refine Tot.bindq (up_ok hp hl) fun r1 h1 => Tot.bindq (dn_ok hp hl) fun r2 h2 => ?_
  subst h1 h2
  dsimp only
  refine Tot.bindq (up_ok sd (by omega)) fun r3 h3 => Tot.bindq (dn_ok su (by omega)) fun r4 h4 => Tot.bindq (title_ok hp hl) fun r5 h5 => Tot.bindq (title_ok su (by omega)) fun r6 h6 => ?_
  subst h3 h4 h5 h6
  dsimp only
  refine Tot.bindq (dn_ok stt (by omega)) fun r7 h7 => Tot.bindq (Length_ok hp hl) fun r8 h8 => Tot.bindq (Length_ok stt (by omega)) fun r9 h9 => ?_
  subst h7 h8 h9
  dsimp only
  refine Tot.bindq (P := fun j => j = true) ?_ fun j hj => Tot.ret hj
  refine Tot.it rfl (Tot.it rfl (Tot.it rfl (Tot.it rfl (Tot.it rfl (Tot.it rfl (Tot.it rfl (Tot.it rfl (Tot.it rfl (Tot.it ?_ (Tot.it ?_ (Tot.it ?_ (Tot.it ?_ (Tot.it ?_ (Tot.some_bind (Tot.ret ?_)))))))))))))))
  · rw [str_eq]
    refine decide_eq_true (congrArg (fun l => strOf (enc l)) ?_)
    rw [List.map_map]
    exact List.map_congr_left fun c _ => (up_dnN c).1
  · rw [str_eq]
    refine decide_eq_true (congrArg (fun l => strOf (enc l)) ?_)
    rw [List.map_map]
    exact List.map_congr_left fun c _ => (up_dnN c).2.1
  · rw [str_eq, title_up]; exact decide_eq_true rfl
  · rw [str_eq, title_dn]; exact decide_eq_true rfl
  · rw [mapS_len]; exact beq_self_eq_true _
  · rw [size_str, size_str, lu]; exact beq_self_eq_true _
theorem TextstrCases_said (s : ByteArray) (_ : s.size ≤ maxLen) (h : s.size + 1 ≤ 1048576) : Tot (fun n => law4_TextstrCases n s) (· = true) := Cases_tot (by omega)
end Go.Gv.R
